/-
  Plain data for Go values, and what it means that a value of the model reads as such data. No program is named here.
-/
import Derived.WalkKit
import Derived.Laws.CopyOwn
import Derived.Maps.AppendAt
import Derived.Deep.Draws
import Derived.Still
set_option linter.unusedSectionVars false
namespace Go.VM

inductive V where
  | b (x : Bool)
  | i (k : IntKind) (n : Int)
  | s (x : List UInt8)
  | l (es : List V)
  | ow (e : Nat) (es : List V)
  | r (cs : List V)
  | bx (cs : List V)
  | a (cs : List V)
  | t (vs : List V)
  | f (fn : Fn) (fs cs : List V)
  | nf
  | np
  | al (n : Nat)
  | pe (n i off sz : Nat)
  | pb (n off sz : Nat)
  | ud
  | mp (ks vs : List V)
  | um
  | pt (b : Nat)
  | mr (r : Option Nat)
  deriving Inhabited

def V.cells : V → List V
  | .a cs => cs
  | v => [v]
def V.one : V → Bool
  | .a _ | .t _ => false
  | _ => true
def V.cell : V → Bool
  | .b _ | .i _ _ | .s _ | .l _ | .r _ | .f _ _ _ | .nf | .np | .mr _ => true
  | _ => false

mutual
def V.flat : V → Bool
  | .b _ | .i _ _ | .s _ | .nf | .np | .mr _ => true
  | .a cs => flats cs
  | .t cs => flats cs
  | .ow _ es => flats es
  | .l es => es.isEmpty
  | _ => false
def V.flats : List V → Bool
  | [] => true
  | x :: rest => V.flat x && V.flats rest
end

def V.flat1 : V → Bool
  | .t _ => false
  | x => x.flat
mutual
def V.uniq : V → Bool
  | .b _ | .i _ _ | .s _ | .nf | .np | .mr _ => true
  | .a cs => uniqs cs
  | .t cs => uniqs cs
  | _ => false
def V.uniqs : List V → Bool
  | [] => true
  | x :: rest => V.uniq x && V.uniqs rest
end
mutual
def V.toVal : V → Value
  | .b x => .bool x
  | .i k n => .int k n
  | .s x => .string ⟨x.toArray⟩
  | .nf => .nilFunc
  | .np => .pointer none
  | .mr m => .map m
  | .a cs => .agg (toVals cs).toArray
  | .t cs => .tuple (toVals cs).toArray
  | _ => .tuple #[]
def V.toVals : List V → List Value
  | [] => []
  | x :: rest => V.toVal x :: V.toVals rest
end
theorem V.uniqs_iff (l : List V) : V.uniqs l = true ↔ ∀ x ∈ l, x.uniq = true := by
  induction l with
  | nil => simp [V.uniqs]
  | cons x rest ih => simp [V.uniqs, ih]
theorem V.toVals_eq (l : List V) : V.toVals l = l.map V.toVal := by
  induction l with
  | nil => simp [V.toVals]
  | cons x rest ih => simp [V.toVals, ih]

theorem V.flats_iff (l : List V) : V.flats l = true ↔ ∀ x ∈ l, x.flat = true := by
  induction l with
  | nil => simp [V.flats]
  | cons x rest ih => simp [V.flats, ih]

def flatc (es : List V) : List V := es.flatMap V.cells

inductive Rep (S : Nat → Prop) (w : World) : Value → V → Prop
  | b (x : Bool) : Rep S w (.bool x) (.b x)
  | i (k : IntKind) (n : Int) : Rep S w (.int k n) (.i k n)
  | s (x : ByteArray) : Rep S w (.string x) (.s x.data.toList)
  | l0 (a : Option Addr) (c : Nat) : Rep S w (.slice a 0 c) (.l [])
  | l (a : Addr) (c k : Nat) (es : List V) (vs : List Value) (hs : S a.block) (hc : es.length ≤ c) (hk : ∀ e ∈ es, e.cells.length = k)
      (h1 : ∀ x ∈ flatc es, x.cell = true) (hl : vs.length = (flatc es).length)
      (hu : ∀ (j : Nat) u, vs[j]? = some u → w.cell? (a.add j) = some u)
      (h : ∀ (j : Nat) u x, vs[j]? = some u → (flatc es)[j]? = some x → Rep S w u x) : Rep S w (.slice (some a) es.length c) (.l es)
  | r (a : Addr) (cs : List V) (vs : List Value) (hs : S a.block) (h1 : ∀ x ∈ cs, x.cell = true) (hl : vs.length = cs.length)
      (hu : ∀ (j : Nat) u, vs[j]? = some u → w.cell? (a.add j) = some u)
      (h : ∀ (j : Nat) u x, vs[j]? = some u → cs[j]? = some x → Rep S w u x) : Rep S w (.pointer (some a)) (.r cs)
  | a (us : Array Value) (cs : List V) (hl : us.size = cs.length) (h1 : ∀ x ∈ cs, x.cell = true)
      (h : ∀ (j : Nat) u x, us[j]? = some u → cs[j]? = some x → Rep S w u x) : Rep S w (.agg us) (.a cs)
  | f (fn : Fn) (fs cs : Array Value) (xs ys : List V) (hx : fs.size = xs.length) (hy : cs.size = ys.length)
      (h : ∀ (j : Nat) u x, fs[j]? = some u → xs[j]? = some x → Rep S w u x)
      (h' : ∀ (j : Nat) u x, cs[j]? = some u → ys[j]? = some x → Rep S w u x) : Rep S w (.func fn fs cs) (.f fn xs ys)
  | t (us : Array Value) (ys : List V) (hl : us.size = ys.length) (h : ∀ (j : Nat) u x, us[j]? = some u → ys[j]? = some x → Rep S w u x) : Rep S w (.tuple us) (.t ys)
  | nf : Rep S w .nilFunc .nf
  | np : Rep S w (.pointer none) .np
  | um (r : Option Nat) : Rep S w (.map r) .um
  | pt (b : Nat) : Rep S w (.pointer (some ⟨b, 0, none⟩)) (.pt b)
  | mr (r : Option Nat) : Rep S w (.map r) (.mr r)

theorem add_block (a : Addr) (n : Nat) : (a.add n).block = a.block := by unfold Addr.add; split <;> rfl

theorem Rep.move {S S' : Nat → Prop} {w w' : World} {v : Value} {x : V} (h : Rep S w v x) (hS : ∀ b, S b → S' b)
    (hw : ∀ p : Addr, S p.block → w'.cell? p = w.cell? p) : Rep S' w' v x := by
  induction h with
  | b x => exact .b x
  | i k n => exact .i k n
  | s x => exact .s x
  | l0 a c => exact .l0 a c
  | l a c k es vs hs hc hk h1 hl hu h ih =>
    exact .l a c k es vs (hS _ hs) hc hk h1 hl (fun j u hj => (hw _ (by rw [add_block]; exact hs)).trans (hu j u hj)) ih
  | r a cs vs hs h1 hl hu h ih =>
    exact .r a cs vs (hS _ hs) h1 hl (fun j u hj => (hw _ (by rw [add_block]; exact hs)).trans (hu j u hj)) ih
  | a us cs hl h1 h ih => exact .a us cs hl h1 ih
  | f fn fs cs xs ys hx hy h h' ih ih' => exact .f fn fs cs xs ys hx hy ih ih'
  | t us ys hl h ih => exact .t us ys hl ih
  | nf => exact .nf
  | np => exact .np
  | um r => exact .um r
  | pt b => exact .pt b
  | mr r => exact .mr r

theorem Rep.mono {S S' : Nat → Prop} {w : World} {v : Value} {x : V} (h : Rep S w v x) (hS : ∀ b, S b → S' b) : Rep S' w v x := h.move hS fun _ _ => rfl
theorem Rep.keep {S : Nat → Prop} {w w' : World} {v : Value} {x : V} (h : Rep S w v x) (hw : ∀ p : Addr, S p.block → w'.cell? p = w.cell? p) : Rep S w' v x := h.move (fun _ h => h) hw

theorem Rep.of_flat {S S' : Nat → Prop} {w w' : World} {v : Value} {x : V} (h : Rep S w v x) (hf : x.flat = true) : Rep S' w' v x := by
  induction h with
  | b x => exact .b x
  | i k n => exact .i k n
  | s x => exact .s x
  | l0 a c => exact .l0 a c
  | l a c k es vs hs hc hk h1 hl hu h ih =>
    simp only [V.flat, List.isEmpty_iff] at hf
    subst hf
    exact .l0 _ _
  | r a cs vs hs h1 hl hu h ih => simp [V.flat] at hf
  | a us cs hl h1 h ih =>
    refine .a us cs hl h1 fun j u x hu hx => ih j u x hu hx ?_
    have := (V.flats_iff cs).1 hf
    exact this x (List.mem_of_getElem? hx)
  | f fn fs cs xs ys hx hy h h' ih ih' => simp [V.flat] at hf
  | t us ys hl h ih =>
    refine .t us ys hl fun j u x hu hx => ih j u x hu hx ?_
    have := (V.flats_iff ys).1 hf
    exact this x (List.mem_of_getElem? hx)
  | nf => exact .nf
  | np => exact .np
  | um r => exact .um r
  | pt b => exact .pt b
  | mr r => exact .mr r

theorem Rep.val {S : Nat → Prop} {w : World} {v : Value} {x : V} (h : Rep S w v x) (hx : x.uniq = true) : v = x.toVal := by
  induction h with
  | b x => simp [V.toVal]
  | i k n => simp [V.toVal]
  | s x => simp [V.toVal]
  | l0 a c => simp [V.uniq] at hx
  | l a c k es vs hs hc hk h1 hl hu h ih => simp [V.uniq] at hx
  | r a cs vs hs h1 hl hu h ih => simp [V.uniq] at hx
  | a us cs hl h1 h ih =>
    simp only [V.toVal, V.toVals_eq]
    congr 1
    apply Array.ext
    · simpa using hl
    · intro j h2 h3
      have hj : j < cs.length := by simpa using h3
      have := ih j us[j] cs[j] (Array.getElem?_eq_getElem h2) (List.getElem?_eq_getElem hj) ((V.uniqs_iff cs).1 (by simpa [V.uniq] using hx) _ (List.getElem_mem hj))
      simpa using this
  | f fn fs cs xs ys hx' hy h h' ih ih' => simp [V.uniq] at hx
  | t us cs hl h ih =>
    simp only [V.toVal, V.toVals_eq]
    congr 1
    apply Array.ext
    · simpa using hl
    · intro j h2 h3
      have hj : j < cs.length := by simpa using h3
      have := ih j us[j] cs[j] (Array.getElem?_eq_getElem h2) (List.getElem?_eq_getElem hj) ((V.uniqs_iff cs).1 (by simpa [V.uniq] using hx) _ (List.getElem_mem hj))
      simpa using this
  | nf => simp [V.toVal]
  | np => simp [V.toVal]
  | um r => simp [V.uniq] at hx
  | pt b => simp [V.uniq] at hx
  | mr r => simp [V.toVal]

def Reps (S : Nat → Prop) (w : World) (vs : List Value) (xs : List V) : Prop := vs.length = xs.length ∧ ∀ (j : Nat) u x, vs[j]? = some u → xs[j]? = some x → Rep S w u x
theorem Reps.nil {S : Nat → Prop} {w : World} : Reps S w [] [] := ⟨rfl, by simp⟩
theorem Reps.cons {S : Nat → Prop} {w : World} {v : Value} {x : V} {vs : List Value} {xs : List V} (h : Rep S w v x) (hs : Reps S w vs xs) : Reps S w (v :: vs) (x :: xs) := by
  refine ⟨by simp [hs.1], fun j u y hu hy => ?_⟩
  cases j with
  | zero => simp at hu hy; subst hu; subst hy; exact h
  | succ j => simp at hu hy; exact hs.2 j u y hu hy
theorem Reps.head {S : Nat → Prop} {w : World} {v : Value} {x : V} {vs : List Value} {xs : List V} (hs : Reps S w (v :: vs) (x :: xs)) : Rep S w v x := hs.2 0 v x rfl rfl
theorem Reps.tail {S : Nat → Prop} {w : World} {v : Value} {x : V} {vs : List Value} {xs : List V} (hs : Reps S w (v :: vs) (x :: xs)) : Reps S w vs xs :=
  ⟨by simpa using hs.1, fun j u y hu hy => hs.2 (j + 1) u y (by simpa using hu) (by simpa using hy)⟩
theorem Reps.move {S S' : Nat → Prop} {w w' : World} {vs : List Value} {xs : List V} (h : Reps S w vs xs) (hS : ∀ b, S b → S' b)
    (hw : ∀ p : Addr, S p.block → w'.cell? p = w.cell? p) : Reps S' w' vs xs := ⟨h.1, fun j u x hu hx => (h.2 j u x hu hx).move hS hw⟩
theorem Reps.append {S : Nat → Prop} {w : World} {vs us : List Value} {xs ys : List V} (h : Reps S w vs xs) (h' : Reps S w us ys) : Reps S w (vs ++ us) (xs ++ ys) := by
  induction vs generalizing xs with
  | nil =>
    have : xs = [] := List.eq_nil_of_length_eq_zero (by simpa using h.1.symm)
    subst this; simpa using h'
  | cons v vs ih =>
    cases xs with
    | nil => exact absurd h.1 (by simp)
    | cons x xs => exact Reps.cons h.head (ih h.tail)
end Go.VM
/-
  The evaluator over plain data: expressions, steps, structured code, calls. No program is named here.
-/
namespace Go.VM

def frz : V → V
  | .ow _ es => .l es
  | .bx cs => .r cs
  | .mp _ _ => .um
  | x => x

def frzt : V → V
  | .t vs => .t (vs.map frz)
  | x => frz x

structure Mut where
  ty : Nat
  ret : Bool
  nl : Bool
  run : List V → List V → Option (List V)
  pos : Nat
def insAt {α : Type} : Nat → α → List α → List α
  | 0, x, l => x :: l
  | n + 1, x, y :: l => y :: insAt n x l
  | _ + 1, x, [] => [x]
def pickAt {α : Type} : Nat → List α → Option (α × List α)
  | 0, [] => none
  | _ + 1, [] => none
  | 0, x :: l => some (x, l)
  | n + 1, y :: l => (pickAt n l).map fun p => (p.1, y :: p.2)
theorem insAt_map {α β : Type} (f : α → β) : ∀ (n : Nat) (x : α) (l : List α), (insAt n x l).map f = insAt n (f x) (l.map f)
  | 0, _, _ => rfl
  | n + 1, x, [] => rfl
  | n + 1, x, y :: l => by simp only [insAt, List.map_cons, insAt_map f n x l]
class Glob where
  gs : List (Nat × List V)
  muts : List (Nat × Mut)
def globV [Glob] (g : Nat) : Option V := (Glob.gs.lookup g).map .r
def mutOf [Glob] (f : Nat) : Mut := (Glob.muts.lookup f).getD ⟨0, false, false, fun _ _ => none, 0⟩

abbrev Env := List (Nat × V)
def get (n : Nat) : Env → Option V
  | [] => none
  | p :: env => if n = p.1 then some p.2 else get n env
def put (n : Nat) (x : V) : Env → Env
  | [] => [(n, x)]
  | p :: env => if n < p.1 then (n, x) :: p :: env else if n = p.1 then (n, x) :: env else p :: put n x env
def V.names : V → Option Nat
  | .al n => some n
  | .pe n _ _ _ => some n
  | .pb n _ _ => some n
  | _ => none
def purge (m : Nat) (env : Env) : Env := env.filter fun p => p.2.names != some m
def del (m : Nat) (env : Env) : Env := env.filter fun p => p.1 != m
def keepE (ks : List Nat) (env : Env) : Env := env.filter fun p => ks.contains p.1 && (match p.2.names with | none => true | some m => ks.contains m)
def put' (n : Nat) (x : V) (env : Env) : Env := match get n env with
  | none => put n x env
  | some _ => put n x (purge n env)

def sub (cs : List V) (off n : Nat) : Option (List V) := if off + n ≤ cs.length then some ((cs.drop off).take n) else none
def rd : V → Option V
  | .al _ | .pe .. | .pb .. | .t _ | .ud => none
  | x => some (frz x)
def look (env : Env) (n : Nat) : Option V := match get n env with
  | some (.al m) => (get m env).bind rd
  | some (.pe m i off sz) => match (get m env).bind rd with
    | some (.l es) => (es[i]?).bind fun e => (sub e.cells off sz).map .r
    | _ => none
  | some (.pb m off sz) => match (get m env).bind rd with
    | some (.r cs) => (sub cs off sz).map .r
    | _ => none
  | some x => rd x
  | none => none

def bitsV (op : BinOp) (k : IntKind) (a b : Int) : Int :=
  let x := BitVec.ofInt k.bits a
  let y := BitVec.ofInt k.bits b
  match op with
  | .and => k.wrap (x &&& y).toNat
  | .or => k.wrap (x ||| y).toNat
  | .xor => k.wrap (x ^^^ y).toNat
  | _ => k.wrap (x &&& ~~~y).toNat

def intV (op : BinOp) (k : IntKind) (a b : Int) : Option V :=
  match op with
  | .add => some (.i k (k.wrap (a + b)))
  | .sub => some (.i k (k.wrap (a - b)))
  | .mul => some (.i k (k.wrap (a * b)))
  | .quo => if b = 0 then none else some (.i k (k.wrap (a.tdiv b)))
  | .rem => if b = 0 then none else some (.i k (a.tmod b))
  | .and => some (.i k (bitsV .and k a b))
  | .or => some (.i k (bitsV .or k a b))
  | .xor => some (.i k (bitsV .xor k a b))
  | .andNot => some (.i k (bitsV .andNot k a b))
  | .eql => some (.b (decide (a = b)))
  | .neq => some (.b (!decide (a = b)))
  | .lss => some (.b (decide (a < b)))
  | .leq => some (.b (decide (a ≤ b)))
  | .gtr => some (.b (decide (b < a)))
  | .geq => some (.b (decide (b ≤ a)))
  | _ => none

def strV (op : BinOp) (x y : List UInt8) : Option V :=
  match op with
  | .add => if x.length + y.length ≤ 9223372036854775807 then some (.s (x ++ y)) else none
  | .eql => some (.b (decide (x = y)))
  | .neq => some (.b (!decide (x = y)))
  | .lss => some (.b (Op.bytesLess x y))
  | .leq => some (.b (Op.bytesLess x y || decide (x = y)))
  | .gtr => some (.b (!(Op.bytesLess x y || decide (x = y))))
  | .geq => some (.b (!Op.bytesLess x y))
  | _ => none

def binV (op : BinOp) : V → V → Option V
  | .i k a, .i k' b =>
    match op with
    | .shl => if b < 0 then none else some (.i k (k.wrap (a * 2 ^ (min b.toNat k.bits))))
    | .shr => if b < 0 then none else some (.i k (a.fdiv (2 ^ (min b.toNat k.bits))))
    | op => if k = k' then intV op k a b else none
  | .s x, .s y => strV op x y
  | _, _ => none
def binbV (op : BinOp) : V → V → Option V
  | .b x, .b y => match op with
    | .eql => some (.b (x == y))
    | .neq => some (.b (!(x == y)))
    | _ => none
  | _, _ => none

def unV (op : UnOp) : V → Option V
  | .b x => match op with
    | .not => some (.b (!x))
    | _ => none
  | .i k n => match op with
    | .neg => some (.i k (k.wrap (0 - n)))
    | .xor => some (.i k (bitsV .xor k (if k.signed then -1 else k.max) n))
    | _ => none
  | _ => none

def eqCells : List Nat → List V → List V → Option Bool
  | [], [], [] => some true
  | 0 :: ks, .b x :: xs, .b y :: ys => (eqCells ks xs ys).map fun r => (x == y) && r
  | 1 :: ks, .i k x :: xs, .i k' y :: ys => if k = k' then (eqCells ks xs ys).map fun r => decide (x = y) && r else none
  | 2 :: ks, .s x :: xs, .s y :: ys => (eqCells ks xs ys).map fun r => decide (x = y) && r
  | _, _, _ => none

def splice (cs : List V) (off : Nat) (vs : List V) : List V := cs.take off ++ vs ++ cs.drop (off + vs.length)
def newE (e : V) (off : Nat) (y : V) : V := match e with
  | .a cs => .a (splice cs off y.cells)
  | _ => y
def bldV : List V → List (Nat × Nat) → List V → Option (List V)
  | z, [], [] => some z
  | z, (off, sz) :: ps, x :: xs => if x.cells.length = sz ∧ off + sz ≤ z.length ∧ x.cells.all V.cell then bldV (splice z off x.cells) ps xs else none
  | _, _, _ => none

/-! Maps of the call's own: keys of one kind (0 bools, 1 strings, 2 numbers), each once. -/
def keyB : Nat → V → Bool
  | 0, .b _ => true
  | 1, .s _ => true
  | 2, .i .i64 _ => true
  | _, _ => false
def keyEq : V → V → Bool
  | .b x, .b y => x == y
  | .s x, .s y => decide (x = y)
  | .i _ a, .i _ b => decide (a = b)
  | _, _ => false
def mfind (k : V) : List V → List V → Option V
  | x :: ks, v :: vs => if keyEq k x then some v else mfind k ks vs
  | _, _ => none
def mkeys (k : V) : List V → List V
  | x :: ks => if keyEq k x then x :: ks else x :: mkeys k ks
  | [] => [k]
def mvals (k v : V) : List V → List V → List V
  | x :: ks, y :: vs => if keyEq k x then v :: vs else y :: mvals k v ks vs
  | _, _ => [v]

def bytesOf : List V → Option (List UInt8)
  | [] => some []
  | .i .u8 n :: es => (bytesOf es).map fun r => UInt8.ofNat n.toNat :: r
  | _ => none

def maxGo (k : IntKind) : Int → List V → Option V
  | a, [] => some (.i k a)
  | a, .i k' b :: r => if k = k' then maxGo k (if b > a then b else a) r else none
  | _, _ => none
def maxV : List V → Option V
  | .i k a :: r => maxGo k a r
  | _ => none
theorem maxV_cons2 (k k' : IntKind) (a b : Int) (r : List V) : maxV (.i k a :: .i k' b :: r) = if k = k' then maxV (.i k (if b > a then b else a) :: r) else none := by simp only [maxV, maxGo]
def minGo (k : IntKind) : Int → List V → Option V
  | a, [] => some (.i k a)
  | a, .i k' b :: r => if k = k' then minGo k (if b < a then b else a) r else none
  | _, _ => none
def minV : List V → Option V
  | .i k a :: r => minGo k a r
  | _ => none
theorem minV_cons2 (k k' : IntKind) (a b : Int) (r : List V) : minV (.i k a :: .i k' b :: r) = if k = k' then minV (.i k (if b < a then b else a) :: r) else none := by simp only [minV, minGo]

inductive XOp where
  | mv
  | bin (op : BinOp) | binb (op : BinOp) | un (op : UnOp) | eqa (neg : Bool) (ks : List Nat) | len | slen
  | fld (off n : Nat) (ag : Bool) | idx | ix (k : Nat) | fa (off n : Nat) | ld (n : Nat) (ag : Bool)
  | call (fl : Bool) (f : Nat) | callv (fl : Bool) | bsl (k : Nat) | cnv (k : IntKind) | b2s | ext (i : Nat) | mx | mn
  | aix (n k : Nat) (ag : Bool) | pix (n k : Nat)
  | slcs (lo hi : Bool) | slc (k : Nat) (lo hi : Bool) | bld (z : List V) (ps : List (Nat × Nat))
  deriving Inhabited

def bnds (n : Nat) : Bool → Bool → List V → Option (Nat × Nat)
  | false, false, [] => some (0, n)
  | true, false, [.i _ a] => if 0 ≤ a ∧ a ≤ n then some (a.toNat, n) else none
  | false, true, [.i _ b] => if 0 ≤ b ∧ b ≤ n then some (0, b.toNat) else none
  | true, true, [.i _ a, .i _ b] => if 0 ≤ a ∧ a ≤ b ∧ b ≤ n then some (a.toNat, b.toNat) else none
  | _, _, _ => none

def XOp.loads : XOp → Bool
  | .ld _ _ | .fld _ _ _ => true
  | _ => false
abbrev Orc := Nat → List V → Option V

def callV (o : Orc) : List V → Option V
  | .f (.func f) fs cs :: args => o f (fs ++ args ++ cs)
  | _ => none

def opQ (o : Orc) : XOp → List V → Option V
  | .mv, [x] => some x
  | .bin op, [x, y] => binV op x y
  | .binb op, [x, y] => binbV op x y
  | .un op, [x] => unV op x
  | .eqa neg ks, [.a xs, .a ys] => (eqCells ks xs ys).map fun r => .b (if neg then !r else r)
  | .slen, [.s x] => some (.i .i64 x.length)
  | .len, [.l es] => some (.i .i64 es.length)
  | .fld off n ag, [.a cs] => (sub cs off n).bind fun r => if ag then some (.a r) else r[0]?
  | .idx, [.s x, .i _ n] => if 0 ≤ n then (x[n.toNat]?).map fun c => .i .u8 c.toNat else none
  | .ix k, [.l es, .i _ n] => if 0 ≤ n then (es[n.toNat]?).bind fun e => if e.cells.length = k then some (.r e.cells) else none else none
  | .fa off n, [.r cs] => (sub cs off n).map .r
  | .aix len k ag, [.a cs, .i _ n] => if 0 ≤ n ∧ n < (len : Int) then (sub cs (n.toNat * k) k).bind fun r => if ag then some (.a r) else r[0]? else none
  | .pix len k, [.r cs, .i _ n] => if 0 ≤ n ∧ n < (len : Int) then (sub cs (n.toNat * k) k).map .r else none
  | .ld n ag, [.r cs] => if cs.length = n then (if ag then some (.a cs) else cs[0]?) else none
  | .call fl f, args => (o f args).bind fun r => if fl = true → r.uniq = true then some (frzt r) else none
  | .callv fl, args => (callV o args).bind fun r => if fl = true → r.uniq = true then some (frzt r) else none
  | .bsl k, xs => if xs.all (fun x => x.cells.length == k && x.cells.all V.cell) then some (.l xs) else none
  | .cnv k, [.i _ n] => some (.i k (k.wrap n))
  | .b2s, [.l es] => (bytesOf es).map .s
  | .ext i, [.t vs] => vs[i]?
  | .mx, args => maxV args
  | .mn, args => minV args
  | .slcs lo hi, .s x :: bs => (bnds x.length lo hi bs).map fun p => .s ((x.take p.2).drop p.1)
  | .slc k lo hi, .l es :: bs => if es.all (fun x => x.cells.length == k) then (bnds es.length lo hi bs).map fun p => .l ((es.take p.2).drop p.1) else none
  | .bld z ps, xs => (bldV z ps xs).map .a
  | _, _ => none

inductive X where
  | sl (n : Nat)
  | k (v : V)
  | ite (c a b : X)
  | op (p : XOp) (xs : List X)
  deriving Inhabited

mutual
def evalX (o : Orc) (env : Env) : X → Option V
  | .sl n => look env n
  | .k v => some v
  | .ite c a b => (evalX o env c).bind fun v => match v with
    | .b t => if t then evalX o env a else evalX o env b
    | _ => none
  | .op p xs => (evalXs o env xs).bind (opQ o p)
def evalXs (o : Orc) (env : Env) : List X → Option (List V)
  | [] => some []
  | x :: xs => (evalX o env x).bind fun v => (evalXs o env xs).bind fun vs => some (v :: vs)
end

inductive Src where
  | c (v : V)
  | t (n : Nat)
  deriving Inhabited

inductive St where
  | mv (d : Nat) (s : Src)
  | as (d : Nat) (s : Src)
  | q (d : Nat) (p : XOp) (xs : List Src)
  | ix (d k : Nat) (s i : Src)
  | fa (d off n : Nat) (s : Src)
  | sto (sz : Nat) (s v : Src)
  | app (d e k bytes : Nat) (s y : Src)
  | call (d : Option Nat) (f : Nat) (xs : List Src)
  | callv (d : Option Nat) (xs : List Src)
  | ext (d i n : Nat)
  | bld (d : Nat) (z : List V) (ps : List (Nat × Nat)) (xs : List Src)
  | bsl (d e k : Nat) (xs : List Src)
  | box (d : Nat) (s : Src)
  | alo (d : Nat) (z : List V)
  | mkf (d : Nat) (fn : Fn) (n : Nat) (xs : List Src)
  | slc (d k : Nat) (lo hi : Bool) (xs : List Src)
  | mks (d e bytes : Nat) (z : V) (n : Src)
  | s2b (d e : Nat) (s : Src)
  | mkm (d : Nat)
  | mget (d kt : Nat) (z : V) (s k : Src)
  | mset (kt : Nat) (s k v : Src)
  | callm (d : Option Nat) (f : Nat) (mu : Mut) (s : Src) (xs : List Src)
  | cpy (d : Option Nat) (e k : Nat) (s y : Src)
  deriving Inhabited

def V.isOwn : V → Bool
  | .ow _ _ => true
  | .bx _ => true
  | .mp _ _ => true
  | _ => false
def owner (env : Env) : Src → Option Nat
  | .c _ => none
  | .t n => match get n env with
    | some x => match x.names with
      | some m => some m
      | none => if x.isOwn then some n else none
    | none => none
def freeze1 (n : Nat) (env : Env) : Env := match get n env with
  | some x => if x.isOwn then put n (frz x) env else env
  | none => env
def freeze (env : Env) (xs : List Src) : Env := xs.foldl (fun e s => match owner e s with
  | some n => freeze1 n e
  | none => e) env
def lookS (env : Env) : Src → Option V
  | .c v => some (frz v)
  | .t n => look env n
def lookSs (env : Env) : List Src → Option (List V)
  | [] => some []
  | s :: r => (lookS env s).bind fun v => (lookSs env r).bind fun vs => some (v :: vs)

def rowOf (env : Env) (n : Nat) : Option Nat := match get n env with
  | some (.al m) => some m
  | some (.ow _ _) => some n
  | _ => none
def hand (m d : Nat) (x : V) (env : Env) : Env := put m (.al d) (put' d x (purge m env))

def mapOf (env : Env) (n : Nat) : Option (Nat × List V × List V) := match get n env with
  | some (.mp ks vs) => some (n, ks, vs)
  | some (.al m) => match get m env with
    | some (.mp ks vs) => some (m, ks, vs)
    | _ => none
  | _ => none

def noOwn (env : Env) : List Src → Bool
  | [] => true
  | s :: r => (owner env s).isNone && noOwn env r
def lookM (env : Env) (s : Src) : Option V := if (owner env s).isNone then lookS env s else match s with
  | .c _ => none
  | .t n => match get n env with
    | some (.ow e es) => some (.ow e es)
    | some (.al m) => match get m env with
      | some (.ow e es) => some (.ow e es)
      | _ => none
    | _ => none
def lookMs (env : Env) : List Src → Option (List V)
  | [] => some []
  | s :: r => (lookM env s).bind fun v => (lookMs env r).bind fun vs => some (v :: vs)
def ownsNot (env : Env) (m : Nat) : List Src → Bool
  | [] => true
  | s :: r => (owner env s != some m) && ownsNot env m r
def putO (d : Option Nat) (x : V) (env : Env) : Env := match d with
  | some d => put' d x env
  | none => env

def stepS (o : Orc) (env : Env) : St → Option Env
  | .mv d (.c v) => some (put' d v env)
  | .mv d (.t n) => (get n env).bind fun x => match x with
    | .t ys => if d = n then none else some (put' d (.t ys) (put n .ud env))
    | .ud => none
    | x => if d = n ∨ x.names = some d then none else some (put' d (if x.isOwn then .al n else x) env)
  | .as d (.c v) => some (put' d v env)
  | .as d (.t n) => (get n env).bind fun x => match x with
    | .al m => (get m env).bind fun y => match y with
      | .t _ => none
      | .ud => none
      | y => if y.isOwn then (if m = d then none else some (hand m d y env)) else some (put' d y env)
    | .pe .. => none
    | .pb .. => none
    | .t _ => none
    | .ud => none
    | x => if x.isOwn then (if n = d then none else some (hand n d x env)) else some (put' d x env)
  | .q d p xs => (lookSs env xs).bind fun vs => (opQ o p vs).bind fun r => if r.flat1 || p.loads then some (put' d r env) else none
  | .ix d k s i => (lookS env i).bind fun iv => match iv with
    | .i _ j => if 0 ≤ j then (lookS env s).bind fun sv => match sv with
        | .l es => (es[j.toNat]?).bind fun e => if e.cells.length = k then
            (match owner env s with
            | some m => if m = d then none else some (put' d (.pe m j.toNat 0 k) env)
            | none => some (put' d (.r e.cells) env))
          else none
        | _ => none
      else none
    | _ => none
  | .fa d off n (.t s) => (get s env).bind fun x => match x with
    | .bx cs => if s ≠ d ∧ off + n ≤ cs.length then some (put' d (.pb s off n) env) else none
    | .al m => (get m env).bind fun y => match y with
      | .bx cs => if m ≠ d ∧ off + n ≤ cs.length then some (put' d (.pb m off n) env) else none
      | _ => none
    | .pe m i a sz => if m ≠ d ∧ off + n ≤ sz then some (put' d (.pe m i (a + off) n) env) else none
    | .pb m a sz => if m ≠ d ∧ off + n ≤ sz then some (put' d (.pb m (a + off) n) env) else none
    | .r cs => (sub cs off n).bind fun r => some (put' d (.r r) env)
    | _ => none
  | .sto sz (.t s) v => (lookS env v).bind fun y => if y.cells.length = sz ∧ y.cells.all V.cell then
      let env1 := freeze env [v]
      (get s env1).bind fun x => match x with
      | .bx cs => if cs.length = sz then some (put s (.bx y.cells) env1) else none
      | .al m => (get m env1).bind fun z => match z with
        | .bx cs => if cs.length = sz then some (put m (.bx y.cells) env1) else none
        | _ => none
      | .pb m off n => if n = sz then (get m env1).bind fun z => match z with
          | .bx cs => if off + sz ≤ cs.length then some (put m (.bx (splice cs off y.cells)) env1) else none
          | _ => none
        else none
      | .pe m i off n => if n = sz then (get m env1).bind fun z => match z with
          | .ow k es => (es[i]?).bind fun e => if 0 < sz ∧ off + sz ≤ e.cells.length then
              some (put m (.ow k (es.set i (newE e off y))) env1) else none
          | _ => none
        else none
      | _ => none
    else none
  | .app d e k bytes s y => (lookS env y).bind fun yv => match yv with
    | .l ys =>
      if ys.all (fun x => x.cells.length == k) then
        match s with
        | .c (.ow e' []) => if e' = e ∧ ys.length * bytes ≤ 140737488355328 then some (put' d (.ow e ys) env) else none
        | .t n => (rowOf env n).bind fun m => (get m env).bind fun x => match x with
          | .ow e' es => if e' = e ∧ (es.length + ys.length) * bytes ≤ 140737488355328 ∧ owner env y ≠ some m then some (put' d (.ow e (es ++ ys)) (purge n (purge m (del m env)))) else none
          | _ => none
        | _ => none
      else none
    | _ => none
  | .call d f xs => (lookSs env xs).bind fun vs => (o f vs).bind fun r => some (putO d r (if r.flat then env else freeze env xs))
  | .callv d xs => (lookSs env xs).bind fun vs => (callV o vs).bind fun r => some (putO d r (if r.flat then env else freeze env xs))
  | .ext d i n => (get n env).bind fun x => match x with
    | .t vs => (vs[i]?).bind fun y => some (put' d y (if y.isOwn then put n (.t (vs.set i .ud)) env else env))
    | _ => none
  | .bld d z ps xs => (lookSs env xs).bind fun vs => (bldV z ps vs).bind fun r => some (put' d (.a r) (freeze env xs))
  | .bsl d e k xs => (lookSs env xs).bind fun vs => if vs.all (fun x => x.cells.length == k && x.cells.all V.cell) then some (put' d (.ow e vs) (freeze env xs)) else none
  | .box d s => (lookS env s).bind fun v => if v.cells.all V.cell then some (put' d (.bx v.cells) (freeze env [s])) else none
  | .alo d z => some (put' d (.bx z) env)
  | .mkf d fn n xs => (lookSs env xs).bind fun vs => some (put' d (.f fn (vs.take n) (vs.drop n)) (freeze env xs))
  | .slc d k lo hi xs => (lookSs env xs).bind fun vs => (opQ o (.slc k lo hi) vs).bind fun r => some (put' d r (freeze env xs))
  | .mks d e bytes z n => (lookS env n).bind fun v => match v with
    | .i .i64 j => if 0 ≤ j ∧ j * bytes ≤ 140737488355328 then some (put' d (.ow e (List.replicate j.toNat z)) env) else none
    | _ => none
  | .s2b d _ s => (lookS env s).bind fun v => match v with
    | .s x => some (put' d (.l (x.map fun c => .i .u8 c.toNat)) env)
    | _ => none
  | .mkm d => some (put' d (.mp [] []) env)
  | .mget d kt z (.t n) k => (lookS env k).bind fun kv => (mapOf env n).bind fun p =>
    if keyB kt kv && p.2.1.all (keyB kt) && ((mfind kv p.2.1 p.2.2).getD z).cell && ((mfind kv p.2.1 p.2.2).getD z).uniq then some (put' d ((mfind kv p.2.1 p.2.2).getD z) env) else none
  | .mset kt (.t n) k v => (lookS env k).bind fun kv => (lookS env v).bind fun x => (mapOf env n).bind fun p =>
    if keyB kt kv && p.2.1.all (keyB kt) && x.cell && x.uniq then some (put p.1 (.mp (mkeys kv p.2.1) (mvals kv x p.2.1 p.2.2)) env) else none
  | .callm d _ mu (.t n) xs => (lookMs env xs).bind fun vs => (rowOf env n).bind fun m => (get m env).bind fun x => match x with
    | .ow e es => if e = mu.ty ∧ mu.nl = false ∧ ownsNot env m xs = true then (mu.run es vs).bind fun es' =>
        if mu.ret then d.map fun d => put' d (.ow e es') (purge n (purge m (del m env)))
        else some (putO d (.t []) (put' m (.ow e es') (purge m (del m env))))
      else none
    | _ => none
  | .cpy d e k (.t n) y => (lookS env y).bind fun yv => (rowOf env n).bind fun m => (get m env).bind fun x => match yv, x with
    | .l ys, .ow e' es => if e' = e ∧ 0 < es.length ∧ 0 < k ∧ ys.all (fun x => x.cells.length == k) = true then some (putO d (.i .i64 ((Nat.min ys.length es.length : Nat) : Int)) (put' m (.ow e (ys.take es.length ++ es.drop ys.length)) (purge m (del m env)))) else none
    | _, _ => none
  | .callm d _ mu (.c (.l [])) xs => (lookSs env xs).bind fun vs => if mu.ret = true ∧ noOwn env xs = true then (mu.run [] vs).bind fun es' => d.map fun d => put' d (.ow mu.ty es') env else none
  | _ => none

def stepsS (o : Orc) : List St → Env → Option Env
  | [], env => some env
  | s :: r, env => (stepS o env s).bind (stepsS o r)

inductive GSt where
  | s (st : St)
  | gd (c : Nat) (t : Bool) (d : Option Nat) (st : St)
  | pick (d c : Nat) (a b : Src)
  deriving Inhabited
def stepG (o : Orc) (env : Env) : GSt → Option Env
  | .s st => stepS o env st
  | .gd c t d st => (look env c).bind fun v => match v with
    | .b u => if u = t then stepS o env st else some (putO d .ud env)
    | _ => none
  | .pick d c a b => (look env c).bind fun v => match v with
    | .b u => (if u = true then lookS env a else lookS env b).bind fun r => if r.flat1 then some (put' d r env) else none
    | _ => none
def stepsG (o : Orc) : List GSt → Env → Option Env
  | [], env => some env
  | s :: r, env => (stepG o env s).bind (stepsG o r)

/-! ### Steps in any order -/

def slotN (env : Env) (n : Nat) : List Nat := match (get n env).bind V.names with
  | some m => [n, m]
  | none => [n]
def srcN (env : Env) : Src → List Nat
  | .c _ => []
  | .t n => slotN env n
def srcsN (env : Env) : List Src → List Nat
  | [] => []
  | s :: r => srcN env s ++ srcsN env r
def flatO : Option V → Bool
  | some r => r.flat
  | none => false
def footC (r : Option V) (a b : List Nat × List Nat) : Option (List Nat × List Nat) := match r with
  | some r => some (if r.flat then a else b)
  | none => none
def namers (m : Nat) : Env → List Nat
  | [] => []
  | p :: r => if p.2.names = some m then p.1 :: namers m r else namers m r
def foot (o : Orc) (env : Env) : St → Option (List Nat × List Nat)
  | .mv d (.c _) => some ([], [d])
  | .mv d (.t n) => match get n env with
    | some (.t _) => if n != d then some ([], [d, n]) else none
    | _ => some (slotN env n, [d])
  | .as d (.c _) => some ([], [d])
  | .as d (.t n) => match owner env (.t n) with
    | some m => match get m env with
      | some y => if y.isOwn && n != d && m != d then some ([], if n = m then [d, m] else [d, m, n]) else if y.isOwn then none else some (slotN env n, [d])
      | none => none
    | none => some (slotN env n, [d])
  | .q d _ xs => some (srcsN env xs, [d])
  | .ix d _ s i => some (srcsN env [s, i], [d])
  | .fa d _ _ s => some (srcN env s, [d])
  | .sto _ (.t s) v => if noOwn env [v] then (match get s env with
      | some (.bx _) => some (srcN env v, [s])
      | some x => x.names.map fun m => (s :: srcN env v, m :: namers m env)
      | none => none) else none
  | .app d _ _ _ (.c _) y => some (srcN env y, [d])
  | .app d _ _ _ (.t n) y => (rowOf env n).bind fun m => if n != d && m != d then some (srcN env y, if n = m then [d, m] else [d, m, n]) else none
  | .call d f xs => if noOwn env xs then some (srcsN env xs, d.toList) else footC ((lookSs env xs).bind (o f)) (srcsN env xs, d.toList) ([], d.toList ++ srcsN env xs)
  | .callv d xs => if noOwn env xs then some (srcsN env xs, d.toList) else footC ((lookSs env xs).bind (callV o)) (srcsN env xs, d.toList) ([], d.toList ++ srcsN env xs)
  | .ext d i n => match get n env with
    | some (.t vs) => (vs[i]?).bind fun y => if n != d then (if y.isOwn then some ([], [d, n]) else some ([n], [d])) else none
    | _ => none
  | .bld d _ _ xs => if noOwn env xs then some (srcsN env xs, [d]) else some ([], d :: srcsN env xs)
  | .bsl d _ _ xs => if noOwn env xs then some (srcsN env xs, [d]) else some ([], d :: srcsN env xs)
  | .box d s => if noOwn env [s] then some (srcN env s, [d]) else none
  | .alo d _ => some ([], [d])
  | .mkf d _ _ xs => if noOwn env xs then some (srcsN env xs, [d]) else some ([], d :: srcsN env xs)
  | .slc d _ _ _ xs => if noOwn env xs then some (srcsN env xs, [d]) else some ([], d :: srcsN env xs)
  | .mks d _ _ _ n => some (srcN env n, [d])
  | .s2b d _ s => some (srcN env s, [d])
  | .callm (some d) _ mu (.t n) xs => (rowOf env n).bind fun m => if mu.ret && n != d && m != d then some (srcsN env xs, if n = m then [d, m] else [d, m, n]) else none
  | .mget d _ _ (.t n) k => some (slotN env n ++ srcN env k, [d])
  | .mset _ (.t n) k v => (mapOf env n).map fun p => (slotN env n ++ (srcN env k ++ srcN env v), p.1 :: namers p.1 env)
  | _ => none
def recB (env e : Env) (f : List Nat × List Nat) : Bool :=
  f.2.all (fun n => match (get n env).bind V.names with | some m => f.1.contains m || f.2.contains m | none => true) &&
  (f.2.all (fun n => match (get n e).bind V.names with | some m => f.1.contains m || f.2.contains m | none => true) &&
  env.all (fun p => match p.2.names with | some m => !f.2.contains m || f.2.contains p.1 | none => true))
def runF (o : Orc) : List St → Env → Option (Env × List (List Nat × List Nat))
  | [], env => some (env, [])
  | s :: r, env => (stepS o env s).bind fun e => (foot o env s).bind fun f => if recB env e f then (runF o r e).bind fun p => some (p.1, f :: p.2) else none
def disj (f g : List Nat × List Nat) : Bool := f.2.all (fun n => !g.1.contains n && !g.2.contains n) && g.2.all (fun n => !f.1.contains n)
def indep1 (f : List Nat × List Nat) : Nat → List (List Nat) → List (List Nat × List Nat) → Bool
  | i, a :: as, g :: gs => (a.contains i || disj f g) && indep1 f i as gs
  | _, _, _ => true
def indep : Nat → List (List Nat) → List (List Nat × List Nat) → Bool
  | i, _ :: as, f :: fs => indep1 f i as fs && indep (i + 1) as fs
  | _, _, _ => true
def drawS (o : Orc) (ss : List St) (af : List (List Nat)) (env : Env) : Option Env := (runF o ss env).bind fun p => if indep 0 af p.2 then some p.1 else none

def footG (o : Orc) (env : Env) : GSt → Option (List Nat × List Nat)
  | .s st => foot o env st
  | .gd c t d st => (look env c).bind fun v => match v with
    | .b u => if u = t then (foot o env st).map fun f => (slotN env c ++ f.1, f.2) else some (slotN env c, d.toList)
    | _ => none
  | .pick d c a b => (look env c).bind fun v => match v with
    | .b u => some (slotN env c ++ srcN env (if u = true then a else b), [d])
    | _ => none
def runFG (o : Orc) : List GSt → Env → Option (Env × List (List Nat × List Nat))
  | [], env => some (env, [])
  | s :: r, env => (stepG o env s).bind fun e => (footG o env s).bind fun f => if recB env e f then (runFG o r e).bind fun p => some (p.1, f :: p.2) else none
def drawG (o : Orc) (ss : List GSt) (af : List (List Nat)) (env : Env) : Option Env := (runFG o ss env).bind fun p => if indep 0 af p.2 then some p.1 else none

def putsQ (o : Orc) (env : Env) : List (Nat × X) → Env → Option Env
  | [], acc => some acc
  | p :: r, acc => (evalX o env p.2).bind fun v => if v.flat1 then putsQ o env r (put' p.1 v acc) else none

inductive C where
  | skip
  | seq (a b : C)
  | q (rs : List (Nat × X))
  | s (ss : List St) (ks : List Nat)
  | d (ss : List St) (af : List (List Nat)) (ks : List Nat)
  | g (ss : List GSt) (ks : List Nat)
  | dg (ss : List GSt) (af : List (List Nat)) (ks : List Nat)
  | cond (x : X) (a b : C)
  | blk (id : Nat) (c : C)
  | loop (kin : List Nat) (c : C)
  | exit (id : Nat) (ks : List Nat)
  | ret (ks : List Nat)
  deriving Inhabited

inductive Ex where
  | n
  | e (id : Nat)
  | r
  deriving DecidableEq, Inhabited

def dropE (ks : List Nat) (env : Env) : Env := env.filter fun p => !ks.contains p.1 && (match p.2.names with | none => true | some m => !ks.contains m)

def rounds (f : Env → Option (Ex × Env)) : Nat → Env → Option (Ex × Env)
  | 0, _ => none
  | n + 1, env => (f env).bind fun p => match p.1 with
    | .n => rounds f n p.2
    | e => some (e, p.2)
open Classical in
noncomputable def looped (f : Env → Option (Ex × Env)) (env : Env) : Option (Ex × Env) :=
  if h : ∃ n, (rounds f n env).isSome = true then rounds f (Classical.choose h) env else none

noncomputable def exec (o : Orc) : C → Env → Option (Ex × Env)
  | .skip, env => some (.n, env)
  | .seq a b, env => (exec o a env).bind fun p => match p.1 with
    | .n => exec o b p.2
    | e => some (e, p.2)
  | .q rs, env => (putsQ o env rs env).bind fun e => some (.n, e)
  | .s ss ks, env => (stepsS o ss env).bind fun e => some (.n, dropE ks e)
  | .d ss af ks, env => (drawS o ss af env).bind fun e => some (.n, dropE ks e)
  | .g ss ks, env => (stepsG o ss env).bind fun e => some (.n, dropE ks e)
  | .dg ss af ks, env => (drawG o ss af env).bind fun e => some (.n, dropE ks e)
  | .cond x a b, env => (evalX o env x).bind fun v => match v with
    | .b t => if t then exec o a env else exec o b env
    | _ => none
  | .blk id c, env => (exec o c env).bind fun p => match p.1 with
    | .e j => if j = id then some (.n, p.2) else some (.e j, p.2)
    | e => some (e, p.2)
  | .loop kin c, env => looped (fun e => exec o c (keepE kin e)) env
  | .exit id ks, env => some (.e id, keepE ks env)
  | .ret ks, env => some (.r, keepE ks env)

inductive RV where
  | tmp (t : Nat)
  | cell (t n : Nat) (ag : Bool)
  deriving Inhabited

def resV (env : Env) : RV → Option (V × Env)
  | .tmp t => (get t env).bind fun x => match x with
    | .al m => (get m env).bind fun y => match y with
      | .al _ | .pe .. | .pb .. | .t _ | .ud => none
      | y => some (y, if y.isOwn then put m .ud env else env)
    | .pe .. => none
    | .pb .. => none
    | .t _ => none
    | .ud => none
    | x => some (x, if x.isOwn then put t .ud env else env)
  | .cell t n ag => (look env t).bind fun x => (opQ (fun _ _ => none) (.ld n ag) [x]).bind fun y => some (y, env)
def resVs : List RV → Env → Option (List V)
  | [], _ => some []
  | r :: rs, env => (resV env r).bind fun p => (resVs rs p.2).bind fun vs => some (p.1 :: vs)
def retV (rs : List RV) (env : Env) : Option V := (resVs rs env).map fun vs => match vs with
  | [v] => v
  | vs => .t vs

structure FCode where
  np : Nat
  res : List RV
  body : C
  deriving Inhabited

def args0 (i : Nat) : List V → Env
  | [] => []
  | x :: r => (i, x) :: args0 (i + 1) r
def V.arg : V → Bool
  | .t _ => false
  | _ => true
noncomputable def bodyV (o : Orc) (fc : FCode) (args : List V) : Option V :=
  if args.length = fc.np ∧ args.all V.arg = true then (exec o fc.body (args0 0 args)).bind fun p => match p.1 with
    | .e _ => none
    | _ => retV fc.res p.2
  else none
end Go.VM
/-
  From the model's code of a function to the evaluator's: a function that the kernel runs. No program is named here.
-/
namespace Go.VM

def ofCell : Value → Option V
  | .bool x => some (.b x)
  | .int k n => some (.i k n)
  | .string s => some (.s s.data.toList)
  | .slice none 0 0 => some (.l [])
  | .nilFunc => some .nf
  | .pointer none => some .np
  | .func fn ⟨[]⟩ ⟨[]⟩ => some (.f fn [] [])
  | _ => none
def ofCells : List Value → Option (List V)
  | [] => some []
  | v :: r => (ofCell v).bind fun x => (ofCells r).bind fun xs => some (x :: xs)
def ofConst : Value → Option V
  | .agg cs => (ofCells cs.toList).map .a
  | v => ofCell v

section
variable (P : Program)

def isAggB (t : TypeId) : Bool := match P.underlying t with
  | some (.struct _) | some (.array _ _) => true
  | _ => false
def elemTy (t : TypeId) : Option Nat := match P.underlying t with
  | some (.slice e) => some e
  | _ => none
def elemCells (t : TypeId) : Option Nat := match P.underlying t with
  | some (.slice e) => (P.info? e).map (·.size)
  | _ => none
def elemBytes (t : TypeId) : Option Nat := match P.underlying t with
  | some (.slice e) => (P.info? e).map (·.bytes)
  | _ => none
def constT (t : TypeId) (v : Value) : Option V := match v with
  | .slice none 0 0 => (elemTy P t).map fun e => .ow e []
  | .map none => some .um
  | v => ofConst v
def srcT [Glob] (t : TypeId) : Operand → Option Src
  | .tmp n => some (.t n)
  | .const v => (constT P t v).map .c
  | .func f => some (.c (.f (.func f) [] []))
  | .global _ => none
def src [Glob] : Operand → Option Src
  | .tmp n => some (.t n)
  | .const v => (ofConst v).map .c
  | .func f => some (.c (.f (.func f) [] []))
  | .global g => (globV g).map .c
def srcs [Glob] : List Operand → Option (List Src)
  | [] => some []
  | x :: r => (src x).bind fun s => (srcs r).bind fun ss => some (s :: ss)

def scalFs (g : TypeId → Option (List Nat)) (off : Nat) : List Field → Option (List Nat)
  | [] => some []
  | f :: r => if f.name ≠ "_" ∧ f.offset = off then (g f.type).bind fun ks => if P.cellsOf f.type = ks.length then (scalFs g (off + ks.length) r).map fun l => ks ++ l else none else none
def scal : Nat → TypeId → Option (List Nat)
  | 0, _ => none
  | d + 1, t => match P.underlying t with
    | some .bool => some [0]
    | some (.int _) => some [1]
    | some .string => some [2]
    | some (.struct fs) => if P.stoodInHeld t then none else scalFs P (scal d) 0 fs.toList
    | _ => none
def flatTy : Nat → TypeId → Bool
  | 0, _ => false
  | d + 1, t => match P.underlying t with
    | some .bool | some (.int _) | some .string => true
    | some (.struct fs) => fs.toList.all fun f => flatTy d f.type
    | some (.tuple ts) => ts.toList.all fun t => flatTy d t
    | _ => false

def zeroCells (t : TypeId) : Option (List V) := (P.info? t).bind fun i => i.zero.bind fun z => ofCells z.cells.toList
def places (fs : Array Field) : Option (List (Nat × Nat)) := fs.toList.mapM fun f => (P.info? f.type).map fun i => (f.offset, i.size)
def placed (qs : List (Nat × Nat)) : List (Nat × Operand) → Option (List (Nat × Nat))
  | [] => some []
  | p :: r => (qs[p.1]?).bind fun q => (placed qs r).bind fun l => some (q :: l)

def qop : Op → Option (XOp × List Operand)
  | .move x | .assign x => some (.mv, [x])
  | .binOp op t x y _ => match op, P.underlying t with
    | .eql, some (.struct _) => (scal P 12 t).map fun ks => (.eqa false ks, [x, y])
    | .neq, some (.struct _) => (scal P 12 t).map fun ks => (.eqa true ks, [x, y])
    | _, some .bool => some (.binb op, [x, y])
    | _, some (.int _) | _, some .string => some (.bin op, [x, y])
    | _, _ => none
  | .unOp op _ x => some (.un op, [x])
  | .convert s d x => match P.underlying s, P.underlying d with
    | some (.int _), some (.int k) => some (.cnv k, [x])
    | some (.slice e), some .string => match P.underlying e with
      | some (.int .u8) => some (.b2s, [x])
      | _ => none
    | _, _ => none
  | .fieldAddr t x i => match P.underlying t with
    | some (.struct fs) => (fs[i]?).bind fun f => if 0 < P.cellsOf f.type then some (.fa f.offset (P.cellsOf f.type), [x]) else none
    | _ => none
  | .field t x i => match P.underlying t with
    | some (.struct fs) => (fs[i]?).bind fun f => if (P.underlying f.type).isSome && (isAggB P f.type || P.cellsOf f.type == 1) then some (.fld f.offset (P.cellsOf f.type) (isAggB P f.type), [x]) else none
    | _ => none
  | .indexAddr t x i => match P.underlying t with
    | some (.slice e) => if (P.underlying e).isSome then some (.ix (P.cellsOf e), [x, i]) else none
    | some (.array n e) => if (P.underlying e).isSome then some (.pix n (P.cellsOf e), [x, i]) else none
    | _ => none
  | .index t x i => match P.underlying t with
    | some .string => some (.idx, [x, i])
    | some (.array n e) => if (P.underlying e).isSome && (isAggB P e || P.cellsOf e == 1) then some (.aix n (P.cellsOf e) (isAggB P e), [x, i]) else none
    | _ => none
  | .load t a => if (P.underlying t).isSome && (isAggB P t || P.cellsOf t == 1) then some (.ld (P.cellsOf t) (isAggB P t), [a]) else none
  | .slice t x lo hi none => match P.underlying t with
    | some .string => some (.slcs lo.isSome hi.isSome, x :: (lo.toList ++ hi.toList))
    | some (.slice e) => if !(P.underlying e).isSome then none else some (.slc (P.cellsOf (P.elem t)) lo.isSome hi.isSome, x :: (lo.toList ++ hi.toList))
    | _ => none
  | .extract t i => some (.ext i, [t])
  | .build t ps => match P.underlying t with
    | some (.struct fs) => (zeroCells P t).bind fun z => (places P fs).bind fun qs => (placed qs ps.toList).bind fun pl => some (.bld z pl, ps.toList.map (·.2))
    | some (.array _ e) => (zeroCells P t).bind fun z => (P.info? e).bind fun ie => some (.bld z (ps.toList.map fun p => (p.1 * ie.size, ie.size)), ps.toList.map (·.2))
    | _ => none
  | .buildSlice t n ps => match elemCells P t with
    | some k => if n * k ≤ 16777216 ∧ 0 < k ∧ ps.toList.map (·.1) = List.range n ∧ (zeroCells P (P.elem t)).isSome then some (.bsl k, ps.toList.map (·.2)) else none
    | none => none
  | .call { callee := .value (.func f), args, .. } => some (.call false f, args.toList)
  | .call { callee := .value x, args, .. } => some (.callv false, x :: args.toList)
  | .call { callee := .builtin .len, args, argTypes } => match args.toList, (argTypes[0]?).bind P.underlying with
    | [x], some .string => some (.slen, [x])
    | [x], some (.slice _) => some (.len, [x])
    | _, _ => none
  | .call { callee := .builtin .max, args, .. } => some (.mx, args.toList)
  | .call { callee := .builtin .min, args, .. } => some (.mn, args.toList)
  | _ => none

/-! ### Mode Q -/

structure QI where
  g : Option (Nat × Bool)
  srcs : List (Option Nat)
  kind : Nat
  x : X
  deriving Inhabited

def defOf (defs : List (Tmp × Nat)) (t : Tmp) : Option Nat := match defs with
  | [] => none
  | p :: r => if p.1 = t then some p.2 else defOf r t
def opnd [Glob] (defs : List (Tmp × Nat)) (is : List QI) : Operand → Option (Option Nat × X)
  | .tmp t => match defOf defs t with
    | some j => (is[j]?).map fun q => (some j, q.x)
    | none => some (none, .sl t)
  | .const v => (ofConst v).map fun c => (none, .k c)
  | .func f => some (none, .k (.f (.func f) [] []))
  | .global g => (globV g).map fun c => (none, .k c)
def opnds [Glob] (defs : List (Tmp × Nat)) (is : List QI) : List Operand → Option (List (Option Nat × X))
  | [] => some []
  | x :: r => (opnd defs is x).bind fun y => (opnds defs is r).bind fun ys => some (y :: ys)

def drawOp (draw : Bool) : XOp → Option XOp
  | .call _ f => some (.call draw f)
  | .callv _ => some (.callv draw)
  | .bsl k => if draw then none else some (.bsl k)
  | p => some p

def qnode [Glob] (draw : Bool) (defs : List (Tmp × Nat)) (is : List QI) (o : Oper) : Option QI := match o.op with
  | .pick c a b => (opnd defs is c).bind fun c => (opnd defs is a).bind fun a => (opnd defs is b).bind fun b =>
    some ⟨o.guard, [c.1, a.1, b.1], 1, .ite c.2 a.2 b.2⟩
  | .move x | .assign x => (opnd defs is x).bind fun y => some ⟨o.guard, [y.1], 2, y.2⟩
  | op => (qop P op).bind fun (p, xs) => (drawOp draw p).bind fun p => (opnds defs is xs).bind fun ys => some ⟨o.guard, ys.map (·.1), 0, .op p (ys.map (·.2))⟩

def guardOk (ops : List Oper) (defs : List (Tmp × Nat)) : Option (Nat × Bool) → Bool
  | none => true
  | some (g, _) => match (ops[g]?).bind (·.dst) with
    | some d => defOf defs d == some g
    | none => false

def ancG (is : List QI) : Nat → Option (Nat × Bool) → Option (Nat × Bool) → Bool
  | 0, _, gj => gj == none
  | n + 1, gi, gj => gj == none || gj == gi || (match gi with
    | none => false
    | some (c, _) => match is[c]? with
      | some C => ancG is n C.g gj
      | none => false)
def srcOk (is : List QI) (g : Option (Nat × Bool)) (s : Option Nat) : Bool := match s with
  | none => true
  | some j => match is[j]? with
    | some J => ancG is 100 g J.g
    | none => false
def srcOk1 (is : List QI) (g : Option (Nat × Bool)) (c : Option Nat) (b : Bool) (s : Option Nat) : Bool := srcOk is g s || (match c, s with
  | some ci, some j => match is[j]? with
    | some J => J.g == some (ci, b)
    | none => false
  | _, _ => false)
def srcsOk (is : List QI) (q : QI) : Bool := if q.kind = 1 then (match q.srcs with
    | [c, a, b] => srcOk is q.g c && srcOk1 is q.g c true a && srcOk1 is q.g c false b
    | _ => false)
  else q.srcs.all (srcOk is q.g)

def qgo [Glob] (draw : Bool) (ops : List Oper) : List Oper → List (Tmp × Nat) → List QI → Option (List (Tmp × Nat) × List QI)
  | [], defs, is => some (defs, is)
  | o :: r, defs, is => match o.dst with
    | none => none
    | some d => if guardOk ops defs o.guard then (qnode P draw defs is o).bind fun q => if srcsOk is q then qgo draw ops r ((d, is.length) :: defs) (is ++ [q]) else none else none

def feeds (is : List QI) (i k : Nat) : Bool := match is[i]?, is[k]? with
  | some I, some K =>
    if K.kind = 1 then
      match K.srcs with
      | [c, a, b] => (c == some i && K.g == I.g) || (match c with
        | some j => ((a == some i && I.g == some (j, true)) || (b == some i && I.g == some (j, false))) && (match is[j]? with
          | some J => J.g == K.g
          | none => false)
        | none => false)
      | _ => false
    else K.srcs.contains (some i) && K.g == I.g
  | _, _ => false
def demanded (is : List QI) (roots : List Nat) : Bool :=
  (List.range is.length).all fun i => roots.contains i || (List.range is.length).any fun k => decide (i < k) && feeds is i k

def rootsOf (defs : List (Tmp × Nat)) (is : List QI) : List Nat → Option (List (Nat × X) × List Nat)
  | [] => some ([], [])
  | d :: r => (rootsOf defs is r).bind fun p => match defOf defs d with
    | none => some p
    | some j => (is[j]?).bind fun q => if q.g.isNone then some ((d, q.x) :: p.1, j :: p.2) else none

def writes (keep : List Nat) (ops : List Oper) : List Nat := (ops.filterMap fun o => o.dst.bind fun d => if keep.contains d then some d else none).eraseDups

def quietB (ops : List Oper) : Bool := Region.noSelect ops.toArray && Region.lexB .any ops.toArray

def regQ [Glob] (nt : Nat) (keep : List Nat) (ops : List Oper) (draw : Bool) : Option (List (Nat × X)) :=
  (qgo P draw ops ops [] []).bind fun (defs, is) => (rootsOf defs is (writes keep ops)).bind fun (rs, js) =>
    if demanded is js && (!draw || quietB ops) && ops.all (fun o => match o.dst with | some d => decide (d < nt) | none => true) then some rs else none

mutual
def slotsX : X → List Nat
  | .sl n => [n]
  | .k _ => []
  | .ite c a b => slotsX c ++ slotsX a ++ slotsX b
  | .op _ xs => slotsXs xs
def slotsXs : List X → List Nat
  | [] => []
  | x :: xs => slotsX x ++ slotsXs xs
end
def aft (o : Oper) : List Nat := (o.after.toList.filter fun e => Region.binds .any e).map (·.on)
def orderOk (ops : List Oper) (is : List QI) : Bool :=
  decide (ops.filterMap (·.dst)).Nodup && (List.range ops.length).all fun i => match ops[i]?, is[i]? with
    | some o, some q => (aft o).all (fun j => decide (j < i)) && q.srcs.all (fun s => match s with | some j => (aft o).contains j | none => true) && (match o.guard with | some (g, _) => (aft o).contains g | none => true) &&
      (slotsX q.x).all fun t => (List.range ops.length).all fun k => match ops[k]? with
        | some o' => o'.dst != some t || (aft o').contains i
        | none => true
    | _, _ => false
def callsFlat (ops : List Oper) : Bool := ops.all fun o => match o.op with
  | .call { callee := .value _, .. } => flatTy P 12 o.type
  | _ => true
def regD [Glob] (nt : Nat) (keep : List Nat) (ops : List Oper) : Option (List (Nat × X)) :=
  (qgo P false ops ops [] []).bind fun (defs, is) => (rootsOf defs is (writes keep ops)).bind fun (rs, js) =>
    if demanded is js && orderOk ops is && ops.all (fun o => match o.dst with | some d => decide (d < nt) | none => true) then some rs else none

/-! ### Mode S -/

def keyTy (t : TypeId) : Option Nat := match P.underlying t with
  | some .bool => some 0
  | some .string => some 1
  | some (.int .i64) => some 2
  | _ => none
def mapTy (t : TypeId) : Option (Nat × TypeId) := match P.underlying t with
  | some (.map k e) => (keyTy P k).map fun kt => (kt, e)
  | _ => none
def zeroV (t : TypeId) : Option V := (P.info? t).bind fun i => i.zero.bind ofConst
def toSt [Glob] (o : Oper) : Option St :=
  if o.guard.isSome then none else
  match o.op, o.dst with
  | .move x, some d => (srcT P o.type x).bind fun s => some (.mv d s)
  | .assign x, some d => (srcT P o.type x).bind fun s => some (.as d s)
  | .indexAddr t x i, some d => match P.underlying t with
    | some (.slice e) => (src x).bind fun s => (src i).bind fun j => if (P.underlying e).isSome then some (.ix d (P.cellsOf e) s j) else none
    | _ => none
  | .fieldAddr t x i, some d => match P.underlying t with
    | some (.struct fs) => (fs[i]?).bind fun f => (src x).bind fun s => if 0 < P.cellsOf f.type then some (.fa d f.offset (P.cellsOf f.type) s) else none
    | _ => none
  | .store t a v, none => (src a).bind fun s => (src v).bind fun v => if P.cellsOf t = 0 then none else some (.sto (P.cellsOf t) s v)
  | .extract (.tmp n) i, some d => some (.ext d i n)
  | .makeMap t none, some d => (mapTy P t).bind fun _ => some (.mkm d)
  | .lookup t x k false, some d => (mapTy P t).bind fun p => (zeroV P p.2).bind fun z => (src x).bind fun s => (src k).bind fun k => some (.mget d p.1 z s k)
  | .mapUpdate t x k v, none => (mapTy P t).bind fun p => (src x).bind fun s => (src k).bind fun k => (src v).bind fun v => some (.mset p.1 s k v)
  | .makeSlice t (.tmp x) (.tmp y), some d => (elemCells P t).bind fun k => (elemBytes P t).bind fun b => (elemTy P t).bind fun e => (zeroV P e).bind fun z =>
    if x = y ∧ 0 < k ∧ 0 < b ∧ z.cells.length = k ∧ z.cells.all V.cell = true then some (.mks d e b z (.t x)) else none
  | .convert t u x, some d => match P.underlying t, P.underlying u with
    | some .string, some (.slice e) => match P.underlying e with
      | some (.int .u8) => (src x).bind fun s => if P.cellsOf e = 1 then some (.s2b d e s) else none
      | _ => none
    | some (.int _), some (.int k) => (src x).bind fun s => some (.q d (.cnv k) [s])
    | some (.slice e), some .string => match P.underlying e with
      | some (.int .u8) => (src x).bind fun s => some (.q d .b2s [s])
      | _ => none
    | _, _ => none
  | .box t x, some d => (src x).bind fun s => if P.cellsOf t = 0 then none else some (.box d s)
  | .alloc t, some d => (zeroCells P t).bind fun z => some (.alo d z)
  | .makeFunc fn fs cs, some d => (srcs (fs.toList ++ cs.toList)).bind fun xs => some (.mkf d fn fs.size xs)
  | .buildSlice t n ps, some d => match elemCells P t with
    | some k => (elemTy P t).bind fun e => if n * k ≤ 16777216 ∧ 0 < k ∧ ps.toList.map (·.1) = List.range n ∧ (zeroCells P (P.elem t)).isSome then (srcs (ps.toList.map (·.2))).bind fun xs => some (.bsl d e k xs) else none
    | none => none
  | .call { callee := .builtin .append, args, argTypes }, some d => match args.toList, argTypes.toList with
    | [x, y], [t, u] => (elemCells P t).bind fun k => (elemBytes P t).bind fun b => (srcT P t x).bind fun s => (src y).bind fun z => (elemTy P t).bind fun e => (zeroCells P e).bind fun zc => if t = u ∧ 0 < k ∧ 0 < b ∧ zc.length = k then some (.app d e k b s z) else none
    | _, _ => none
  | .call { callee := .builtin .copy, args, argTypes }, d => match args.toList, argTypes.toList with
    | [x, y], [t, _] => match P.underlying t with
      | some (.slice e) => (src x).bind fun s => (src y).bind fun z => if (P.info? e).isSome = true then some (.cpy d e (P.cellsOf e) s z) else none
      | _ => none
    | _, _ => none
  | op, d => (qop P op).bind fun (p, xs) => (srcs xs).bind fun ss => match p, d with
    | .call _ f, d => if (Glob.muts.lookup f).isSome then ((pickAt (mutOf f).pos ss).map fun p => .callm d f (mutOf f) p.1 p.2) else some (.call d f ss)
    | .callv _, d => some (.callv d ss)
    | .bld z ps, some d => some (.bld d z ps ss)
    | .slc k lo hi, some d => some (.slc d k lo hi ss)
    | .mv, _ | .ix _, _ | .fa _ _, _ | .ext _, _ | .bsl _, _ => none
    | p, some d => some (.q d p ss)
    | _, none => none
def toSts [Glob] : List Oper → Option (List St)
  | [] => some []
  | o :: r => (toSt P o).bind fun s => (toSts r).bind fun ss => some (s :: ss)

def guardT (ops : List Oper) (g : Nat × Bool) : Option (Nat × Bool) := ((ops[g.1]?).bind (·.dst)).map fun d => (d, g.2)
def toG [Glob] (ops : List Oper) (o : Oper) : Option GSt := match o.guard with
  | some g => (guardT ops g).bind fun g => (toSt P { o with guard := none }).map fun s => .gd g.1 g.2 o.dst s
  | none => match o.op, o.dst with
    | .pick (.tmp c) a b, some d => (src a).bind fun a => (src b).bind fun b => some (.pick d c a b)
    | _, _ => (toSt P o).map .s
def toGs [Glob] (ops : List Oper) : List Oper → Option (List GSt)
  | [] => some []
  | o :: r => (toG P ops o).bind fun s => (toGs ops r).bind fun ss => some (s :: ss)

/-! ### Code -/

def opTmps (o : Oper) : List Nat := o.dst.toList ++ o.op.operands.toList.filterMap fun
  | .tmp t => some t
  | _ => none
def regionsOf : Code → List (List Nat)
  | .region _ ops _ => [(ops.toList.flatMap opTmps).eraseDups]
  | .seq a b => regionsOf a ++ regionsOf b
  | .cond (.tmp t) a b => [t] :: (regionsOf a ++ regionsOf b)
  | .cond _ a b => regionsOf a ++ regionsOf b
  | .block _ a | .loop a | .scope a => regionsOf a
  | _ => []
def resTmps (f : Func) : List Nat := f.results.toList.map fun
  | .tmp t => t
  | .cell t _ => t
def multi (seen : List Nat) (dups : List Nat) : List (List Nat) → List Nat
  | [] => dups
  | l :: r => multi (l.filter (fun t => !seen.contains t) ++ seen) (l.filter (fun t => seen.contains t && !dups.contains t) ++ dups) r
def union (a b : List Nat) : List Nat := a ++ b.filter fun t => !a.contains t
def keepOf (f : Func) (c : Code) : List Nat := union (List.range (f.params.size + f.nfree)) (multi [] [] (resTmps f :: List.range (f.params.size + f.nfree) :: regionsOf c))

def minus (a b : List Nat) : List Nat := a.filter fun t => !b.contains t
def useDef : List Oper → List Nat × List Nat
  | [] => ([], [])
  | o :: r => let (u, d) := useDef r
    let us := o.op.operands.toList.filterMap fun | .tmp t => some t | _ => none
    let ds := if o.guard.isNone then o.dst.toList else []
    (union us.eraseDups (minus u ds), union ds d)
def exitsTo (es : List (Nat × List Nat)) (id : Nat) : List Nat := match es with
  | [] => []
  | p :: r => if p.1 = id then p.2 else exitsTo r id
def live (ret : List Nat) : Code → List (Nat × List Nat) → List Nat → List Nat
  | .region _ ops _, _, out => let (u, d) := useDef ops.toList; union u (minus out d)
  | .seq a b, es, out => live ret a es (live ret b es out)
  | .cond (.tmp t) a b, es, out => union [t] (union (live ret a es out) (live ret b es out))
  | .cond _ a b, es, out => union (live ret a es out) (live ret b es out)
  | .block id a, es, out => live ret a ((id, out) :: es) out
  | .loop a, es, _ => live ret a es (live ret a es [])
  | .scope a, es, out => live ret a es out
  | .exit id, es, _ => exitsTo es id
  | .ret, _, _ => ret
  | _, _, out => out

def ins1 (x : Nat) : List Nat → List Nat
  | [] => [x]
  | y :: r => if x ≤ y then x :: y :: r else y :: ins1 x r
def sort1 (l : List Nat) : List Nat := l.foldr ins1 []

def condX : Operand → Option X
  | .tmp t => some (.sl t)
  | .const (.bool b) => some (.k (.b b))
  | _ => none

def stuckR : C := .q [(0, .op .mv [])]
def closeB (af : List (List Nat)) : List (List Nat) := af.map fun a => (List.range af.length).filter fun j => a.contains j || a.any fun k => (af.getD k []).contains j
def closeA (af : List (List Nat)) : List (List Nat) := closeB (closeB (closeB (closeB af)))
def compR [Glob] (nt : Nat) (keep : List Nat) (ops : Array Oper) (draw : Bool) : Option C :=
  if !ops.toList.all (fun o => match o.dst with | some d => decide (d < nt) | none => true) then none else match toSts P ops.toList with
  | none => (toGs P ops.toList ops.toList).bind fun ss =>
    let ks := (ops.toList.flatMap fun o => o.dst.toList).filter fun t => !keep.contains t
    if draw then (if (List.range ops.size).all fun i => match ops[i]? with | some o => (aft o).all fun j => decide (j < i) | none => false then some (.dg ss (closeA (ops.toList.map aft)) ks) else none) else some (.g ss ks)
  | some ss =>
    let ks := (ops.toList.flatMap fun o => o.dst.toList).filter fun t => !keep.contains t
    if draw then (if (List.range ops.size).all fun i => match ops[i]? with | some o => (aft o).all fun j => decide (j < i) | none => false then some (.d ss (closeA (ops.toList.map aft)) ks) else none) else some (.s ss ks)
def comp [Glob] (nt : Nat) (keep ret : List Nat) : Code → List (Nat × List Nat) → List Nat → Option C
  | .skip, _, _ => some .skip
  | .region _ ops draw, _, _ =>
    let q := if (writes keep ops.toList).all fun d => (ops.toList.filter fun o => o.dst == some d).all fun o => flatTy P 12 o.type then (match (if !draw || callsFlat P ops.toList then regQ P nt keep ops.toList draw else none) with | some rs => some rs | none => if draw then regD P nt keep ops.toList else none) else none
    match q with
    | some rs => some (.q rs)
    | none => some ((compR P nt keep ops draw).getD stuckR)
  | .seq a b, es, out => (comp nt keep ret a es (live ret b es out)).bind fun a => (comp nt keep ret b es out).bind fun b => some (.seq a b)
  | .cond c a b, es, out => (condX c).bind fun x => (comp nt keep ret a es out).bind fun a => (comp nt keep ret b es out).bind fun b => some (.cond x a b)
  | .block id a, es, out => (comp nt keep ret a ((id, out) :: es) out).bind fun a => some (.blk id a)
  | .loop a, es, out => let l := sort1 ((live ret (.loop a) es out).filter fun t => keep.contains t)
    (comp nt keep ret a es l).bind fun c => some (.loop l c)
  | .exit id, es, _ => some (.exit id (sort1 ((exitsTo es id).filter fun t => keep.contains t)))
  | .ret, _, _ => some (.ret ret)
  | _, _, _ => none

def resOf : List ResultVar → Option (List RV)
  | [] => some []
  | .tmp t :: r => (resOf r).map fun rs => .tmp t :: rs
  | .cell t ty :: r => if (P.underlying ty).isSome && (isAggB P ty || P.cellsOf ty == 1) then (resOf r).map fun rs => .cell t (P.cellsOf ty) (isAggB P ty) :: rs else none

def compile [Glob] (f : Func) : Option FCode := f.body.bind fun c =>
  let ret := resTmps f
  (comp P f.ntmps (keepOf f c) ret c [] ret).bind fun b => (resOf P f.results.toList).bind fun rs => if f.params.size + f.nfree ≤ f.ntmps ∧ (P.follows .mixedOrders = true) then some ⟨f.params.size + f.nfree, rs, b⟩ else none
end
end Go.VM
/-
  What a call of the model is said to do with plain data: contracts. No program is named here.
-/
namespace Go.VM
open Go.RowKit

def blkOf : Value → Option Nat
  | .slice (some a) _ _ => some a.block
  | .pointer (some a) => some a.block
  | .map (some g) => some g
  | _ => none

def OwnS (P : Program) (S : Nat → Prop) (w : World) (base : Nat) (e : TypeId) (es : List V) (v : Value) : Prop :=
  ∃ vs : List Value, w.ownsRow base e (P.cellsOf e) v es.length vs ∧ (∀ x ∈ es, x.cells.length = P.cellsOf e) ∧ (∀ x ∈ flatc es, x.cell = true) ∧ Reps S w vs (flatc es)
def BoxS (S : Nat → Prop) (w : World) (base : Nat) (cs : List V) (v : Value) : Prop :=
  ∃ (g : Nat) (vs : List Value) (ty : TypeId), v = .pointer (some ⟨g, 0, none⟩) ∧ base ≤ g ∧ w.heap[g]? = some (.cells vs.toArray ty (0, 0)) ∧ (∀ x ∈ cs, x.cell = true) ∧ Reps S w vs cs

def MapS (w : World) (base : Nat) (ks vs : List V) (v : Value) : Prop :=
  ∃ (g : Nat) (es : Array MapEntry) (clock : Nat), v = .map (some g) ∧ base ≤ g ∧ w.heap[g]? = some (.map es clock) ∧ es.toList.map (·.key) = ks.map V.toVal ∧ es.toList.map (·.val) = vs.map V.toVal ∧ (∀ x ∈ ks, x.uniq = true) ∧ (∀ x ∈ vs, x.uniq = true) ∧ (es.toList.map (·.born)).Nodup ∧ ∀ x ∈ es.toList, x.born < clock

def Res1 (P : Program) (S : Nat → Prop) (w : World) (base : Nat) (v : Value) : V → Prop
  | .ow e es => OwnS P S w base e es v ∧ ∀ g, blkOf v = some g → ¬ S g
  | .bx cs => BoxS S w base cs v ∧ ∀ g, blkOf v = some g → ¬ S g
  | .mp ks vs => MapS w base ks vs v ∧ ∀ g, blkOf v = some g → ¬ S g
  | .al _ | .pe .. | .pb .. | .t _ | .ud => False
  | x => Rep S w v x
def apart (us : List Value) (ys : List V) : Prop := ∀ (i j : Nat) u u' y y' g, i ≠ j → us[i]? = some u → us[j]? = some u' → ys[i]? = some y → ys[j]? = some y' →
  y.isOwn = true → y'.isOwn = true → blkOf u = some g → blkOf u' ≠ some g
def Res (P : Program) (S : Nat → Prop) (w : World) (base : Nat) (v : Value) : V → Prop
  | .t ys => ∃ us : List Value, v = .tuple us.toArray ∧ us.length = ys.length ∧ (∀ (j : Nat) u y, us[j]? = some u → ys[j]? = some y → Res1 P S w base u y) ∧ apart us ys
  | y => Res1 P S w base v y

def GOK [Glob] (S : Nat → Prop) (w : World) : Prop := ∀ p ∈ Glob.gs, Rep S w (.pointer (some ⟨p.1, 0, none⟩)) (.r p.2) ∧ S p.1 ∧ w.cell? ⟨p.1, p.2.length, none⟩ = none
theorem GOK.move [Glob] {S S' : Nat → Prop} {w w' : World} (h : GOK S w) (hS : ∀ b, S b → S' b) (hw : ∀ p : Addr, S p.block → w'.cell? p = w.cell? p) : GOK S' w' := fun p hp => ⟨(h p hp).1.move hS hw, hS _ (h p hp).2.1, (hw ⟨p.1, p.2.length, none⟩ (h p hp).2.1).trans (h p hp).2.2⟩
theorem lookup_mem {g : Nat} {cs : List V} : ∀ {l : List (Nat × List V)}, l.lookup g = some cs → (g, cs) ∈ l
  | p :: l, h => by
    rw [List.lookup] at h
    split at h
    · rename_i he
      cases h
      have : g = p.1 := by simpa using he
      subst this; exact List.mem_cons_self ..
    · exact List.mem_cons_of_mem _ (lookup_mem h)
theorem GOK.val [Glob] {S : Nat → Prop} {w : World} (h : GOK S w) {g : Nat} {x : V} (hx : globV g = some x) : Rep S w (.pointer (some ⟨g, 0, none⟩)) x := by
  unfold globV at hx
  cases hl : Glob.gs.lookup g with
  | none => rw [hl] at hx; cases hx
  | some cs => rw [hl] at hx; cases hx; exact (h _ (lookup_mem hl)).1
theorem globV_kind [Glob] {g : Nat} {x : V} (hx : globV g = some x) : ∃ cs, x = .r cs := by
  unfold globV at hx
  cases hl : Glob.gs.lookup g with
  | none => rw [hl] at hx; cases hx
  | some cs => rw [hl] at hx; cases hx; exact ⟨_, rfl⟩

def PF [Glob] (P : Program) (f : FuncId) (xs : List V) (y : V) : Prop :=
  ∀ (S : Nat → Prop) (w : World) (vs : List Value), (∀ b, S b → b < w.heap.size) → GOK S w → Reps S w vs xs →
    Calls P f vs.toArray w fun e w' => ∃ v, e = .returned v ∧ Below w.heap.size w w' ∧
      ∃ S' : Nat → Prop, (∀ b, S b → S' b) ∧ (∀ b, S' b → (S b ∨ w.heap.size ≤ b) ∧ b < w'.heap.size) ∧ Res P S' w' w.heap.size v y
def okFn (P : Program) (f : FuncId) : Bool := match P.funcs[f]? with
  | some fn => fn.name != "runtime.NumGoroutine" && fn.body.isSome
  | none => false
def Arg1 (P : Program) (S : Nat → Prop) (w : World) (base : Nat) (u v : Value) : V → Prop
  | .ow e es => OwnS P S w base e es v ∧ (∀ g, blkOf v = some g → ¬ S g) ∧ ∀ g, blkOf v = some g → blkOf u ≠ some g
  | x => Rep S w v x
def Args (P : Program) (S : Nat → Prop) (w : World) (base : Nat) (u : Value) (us : List Value) (xs : List V) : Prop := us.length = xs.length ∧ ∀ (j : Nat) v x, us[j]? = some v → xs[j]? = some x → Arg1 P S w base u v x
theorem Arg1.of_rep {P : Program} {S : Nat → Prop} {w : World} {base : Nat} {u v : Value} {x : V} (h : Rep S w v x) : Arg1 P S w base u v x := by
  cases x <;> first | exact h | (cases h; done)
theorem Args.of_reps {P : Program} {S : Nat → Prop} {w : World} {base : Nat} {u : Value} {us : List Value} {xs : List V} (h : Reps S w us xs) : Args P S w base u us xs := ⟨h.1, fun j v x hj hx => .of_rep (h.2 j v x hj hx)⟩
theorem Args.nil {P : Program} {S : Nat → Prop} {w : World} {base : Nat} {u : Value} : Args P S w base u [] [] := .of_reps Reps.nil
theorem Args.cons {P : Program} {S : Nat → Prop} {w : World} {base : Nat} {u v : Value} {x : V} {us : List Value} {xs : List V} (h : Arg1 P S w base u v x) (hs : Args P S w base u us xs) : Args P S w base u (v :: us) (x :: xs) := by
  refine ⟨by simp [hs.1], fun j u' y hu hy => ?_⟩
  cases j with
  | zero => simp at hu hy; subst hu; subst hy; exact h
  | succ j => simp at hu hy; exact hs.2 j u' y hu hy
theorem Args.head {P : Program} {S : Nat → Prop} {w : World} {base : Nat} {u v : Value} {x : V} {us : List Value} {xs : List V} (h : Args P S w base u (v :: us) (x :: xs)) : Arg1 P S w base u v x := h.2 0 v x rfl rfl
theorem Args.tail {P : Program} {S : Nat → Prop} {w : World} {base : Nat} {u v : Value} {x : V} {us : List Value} {xs : List V} (h : Args P S w base u (v :: us) (x :: xs)) : Args P S w base u us xs :=
  ⟨by simpa using h.1, fun j u' y hu hy => h.2 (j + 1) u' y (by simpa using hu) (by simpa using hy)⟩
def PFMp [Glob] (P : Program) (f : FuncId) (pos : Nat) (e : TypeId) (ret nl : Bool) (es xs es' : List V) : Prop :=
  ∀ (S : Nat → Prop) (w : World) (base : Nat) (u : Value) (vs us : List Value), (∀ b, S b → b < w.heap.size) → GOK S w → base ≤ w.heap.size → w.ownsRow base e (P.cellsOf e) u es.length vs → (∀ x ∈ es, x.cells.length = P.cellsOf e) → (∀ x ∈ flatc es, x.cell = true) →
    Reps S w vs (flatc es) → (∀ g, u.ownBlock = some g → ¬ S g) → Args P S w base u us xs → (nl = true → u = .slice none 0 0) →
    Calls P f (insAt pos u us).toArray w fun ex w' => ∃ (r v' : Value) (vs' : List Value), ex = .returned r ∧ w.grownBy w' u.ownBlock ∧ (∀ g, v'.ownBlock = some g → u.ownBlock = some g ∨ w.heap.size ≤ g) ∧ w'.ownsRow base e (P.cellsOf e) v' es'.length vs' ∧ (∀ x ∈ es', x.cells.length = P.cellsOf e) ∧
      (∀ x ∈ flatc es', x.cell = true) ∧ Reps S w vs' (flatc es') ∧ (if ret = true then r = v' else v' = u ∧ r = .tuple #[])
def PFM [Glob] (P : Program) (f : FuncId) (e : TypeId) (ret nl : Bool) (es xs es' : List V) : Prop :=
  ∀ (S : Nat → Prop) (w : World) (base : Nat) (u : Value) (vs us : List Value), (∀ b, S b → b < w.heap.size) → GOK S w → base ≤ w.heap.size → w.ownsRow base e (P.cellsOf e) u es.length vs → (∀ x ∈ es, x.cells.length = P.cellsOf e) → (∀ x ∈ flatc es, x.cell = true) →
    Reps S w vs (flatc es) → (∀ g, u.ownBlock = some g → ¬ S g) → Args P S w base u us xs → (nl = true → u = .slice none 0 0) →
    Calls P f (u :: us).toArray w fun ex w' => ∃ (r v' : Value) (vs' : List Value), ex = .returned r ∧ w.grownBy w' u.ownBlock ∧ (v'.ownBlock = u.ownBlock ∨ v'.ownBlock = some w.heap.size) ∧ w'.ownsRow base e (P.cellsOf e) v' es'.length vs' ∧ (∀ x ∈ es', x.cells.length = P.cellsOf e) ∧
      (∀ x ∈ flatc es', x.cell = true) ∧ Reps S w vs' (flatc es') ∧ (if ret = true then r = v' else v' = u ∧ r = .tuple #[])
theorem grown_old {w : World} {v' : Value} {row : Option Nat} (h : v'.ownBlock = row ∨ v'.ownBlock = some w.heap.size) : ∀ g, v'.ownBlock = some g → row = some g ∨ w.heap.size ≤ g := by
  intro g hg
  rcases h with h | h
  · exact .inl (h ▸ hg)
  · rw [h] at hg; cases hg; exact .inr (Nat.le_refl _)
theorem PFM.p [Glob] {P : Program} {f : FuncId} {e : TypeId} {ret nl : Bool} {es xs es' : List V} (h : PFM P f e ret nl es xs es') : PFMp P f 0 e ret nl es xs es' := by
  intro S w base u vs us h1 h2 h3 h4 h5 h6 h7 h8 h9 h10
  refine (h S w base u vs us h1 h2 h3 h4 h5 h6 h7 h8 h9 h10).mono fun ex w' ⟨r, v', vs', he, hg, hv, hr⟩ => ⟨r, v', vs', he, hg, grown_old hv, hr⟩
def MutOK [Glob] (P : Program) : Prop := ∀ f mu, Glob.muts.lookup f = some mu → okFn P f = true ∧ ∀ es xs es', mu.run es xs = some es' → PFMp P f mu.pos mu.ty mu.ret mu.nl es xs es'
def SoundO [Glob] (P : Program) (o : Orc) : Prop := MutOK P ∧ ∀ f xs y, o f xs = some y → okFn P f = true ∧ PF P f xs y

/-! ### Small lemmas -/
theorem Rep.oneCell {S : Nat → Prop} {w : World} {v : Value} {x : V} (h : Rep S w v x) (hx : x.cell = true) : v.oneCell' = true := by
  cases h <;> first | rfl | simp [V.cell] at hx
theorem Rep.bel {S : Nat → Prop} {w w' : World} {v : Value} {x : V} {B : Nat} (h : Rep S w v x) (hS : ∀ b, S b → b < B) (hb : Below B w w') : Rep S w' v x :=
  h.keep fun _ hp => hb.cell (hS _ hp)
theorem Reps.bel {S : Nat → Prop} {w w' : World} {vs : List Value} {xs : List V} {B : Nat} (h : Reps S w vs xs) (hS : ∀ b, S b → b < B) (hb : Below B w w') : Reps S w' vs xs :=
  h.move (fun _ h => h) fun _ hp => hb.cell (hS _ hp)
theorem Reps.mono {S S' : Nat → Prop} {w : World} {vs : List Value} {xs : List V} (h : Reps S w vs xs) (hS : ∀ b, S b → S' b) : Reps S' w vs xs := h.move hS fun _ _ => rfl
theorem Reps.getD {S : Nat → Prop} {w : World} {vs : List Value} {xs : List V} (h : Reps S w vs xs) {j : Nat} {x : V} (hx : xs[j]? = some x) : ∃ u, vs[j]? = some u ∧ Rep S w u x := by
  have hj : j < xs.length := (List.getElem?_eq_some_iff.1 hx).1
  have hj' : j < vs.length := by rw [h.1]; exact hj
  exact ⟨vs[j], List.getElem?_eq_getElem hj', h.2 j _ x (List.getElem?_eq_getElem hj') hx⟩
theorem Reps.drop {S : Nat → Prop} {w : World} {vs : List Value} {xs : List V} (h : Reps S w vs xs) (n : Nat) : Reps S w (vs.drop n) (xs.drop n) :=
  ⟨by simp [h.1], fun j u x hu hx => h.2 (n + j) u x (by simpa using hu) (by simpa using hx)⟩
theorem Reps.take {S : Nat → Prop} {w : World} {vs : List Value} {xs : List V} (h : Reps S w vs xs) (n : Nat) : Reps S w (vs.take n) (xs.take n) := by
  refine ⟨by simp [h.1], fun j u x hu hx => ?_⟩
  rw [List.getElem?_take] at hu hx
  by_cases hj : j < n
  · rw [if_pos hj] at hu hx; exact h.2 j u x hu hx
  · rw [if_neg hj] at hu; cases hu

theorem flatc_cons (e : V) (es : List V) : flatc (e :: es) = e.cells ++ flatc es := rfl
theorem flatc_append (es fs : List V) : flatc (es ++ fs) = flatc es ++ flatc fs := by simp [flatc]
theorem flatc_length {k : Nat} : ∀ {es : List V}, (∀ e ∈ es, e.cells.length = k) → (flatc es).length = es.length * k
  | [], _ => by simp [flatc]
  | e :: es, h => by
    have h1 := h e (List.mem_cons_self ..)
    have h2 := flatc_length (es := es) fun x hx => h x (List.mem_cons_of_mem _ hx)
    rw [flatc_cons, List.length_append, h1, h2, List.length_cons, Nat.succ_mul, Nat.add_comm]
theorem flatc_drop {k : Nat} : ∀ {es : List V} (i : Nat), (∀ e ∈ es, e.cells.length = k) → (flatc es).drop (i * k) = flatc (es.drop i)
  | es, 0, _ => by simp
  | [], i + 1, _ => by simp [flatc]
  | e :: es, i + 1, h => by
    have h1 := h e (List.mem_cons_self ..)
    have h2 := flatc_drop (es := es) i fun x hx => h x (List.mem_cons_of_mem _ hx)
    rw [flatc_cons, List.drop_succ_cons, ← h2, List.drop_append, h1, List.drop_eq_nil_of_le (by rw [h1, Nat.succ_mul]; omega), List.nil_append, show (i + 1) * k - k = i * k from by rw [Nat.succ_mul]; omega]
theorem flatc_take {k : Nat} : ∀ {es : List V} (i : Nat), (∀ e ∈ es, e.cells.length = k) → (flatc es).take (i * k) = flatc (es.take i)
  | es, 0, _ => by simp [flatc]
  | [], i + 1, _ => by simp [flatc]
  | e :: es, i + 1, h => by
    have h1 := h e (List.mem_cons_self ..)
    have h2 := flatc_take (es := es) i fun x hx => h x (List.mem_cons_of_mem _ hx)
    rw [flatc_cons, List.take_succ_cons, flatc_cons, ← h2, List.take_append, h1, List.take_of_length_le (by rw [h1, Nat.succ_mul]; omega), show (i + 1) * k - k = i * k from by rw [Nat.succ_mul]; omega]
theorem flatc_at {k : Nat} {es : List V} {i : Nat} {e : V} (h : ∀ e ∈ es, e.cells.length = k) (he : es[i]? = some e) : ((flatc es).drop (i * k)).take k = e.cells := by
  rw [flatc_drop i h]
  have hi : i < es.length := (List.getElem?_eq_some_iff.1 he).1
  have hd : es.drop i = e :: es.drop (i + 1) := by
    rw [List.drop_eq_getElem_cons hi]
    have := (List.getElem?_eq_some_iff.1 he).2
    rw [this]
  rw [hd, flatc_cons]
  have hl := h e (List.mem_of_getElem? he)
  rw [← hl, List.take_left]
theorem add_add (a : Addr) (i j : Nat) : (a.add i).add j = a.add (i + j) := by
  unfold Addr.add
  by_cases hi : i = 0 <;> by_cases hj : j = 0 <;> simp [hi, hj, Nat.add_assoc]

theorem Rep.slice {S : Nat → Prop} {w : World} {v : Value} {es : List V} (h : Rep S w v (.l es)) :
    ∃ (a : Option Addr) (c k : Nat) (vs : List Value), v = .slice a es.length c ∧ (∀ e ∈ es, e.cells.length = k) ∧ (∀ x ∈ flatc es, x.cell = true) ∧ Reps S w vs (flatc es) ∧ es.length ≤ c ∧
      (es = [] ∨ ∃ ad, a = some ad ∧ S ad.block ∧ ∀ (j : Nat) u, vs[j]? = some u → w.cell? (ad.add j) = some u) := by
  cases h with
  | l0 a c => exact ⟨a, c, 0, [], rfl, by simp, by simp [flatc], Reps.nil, Nat.zero_le _, .inl rfl⟩
  | l a c k _ vs hs hc hk h1 hl hu h => exact ⟨some a, c, k, vs, rfl, hk, h1, ⟨hl, h⟩, hc, .inr ⟨a, rfl, hs, hu⟩⟩
theorem Rep.mk_slice {S : Nat → Prop} {w : World} {a : Option Addr} {c k : Nat} {es : List V} {vs : List Value} (hk : ∀ e ∈ es, e.cells.length = k) (h1 : ∀ x ∈ flatc es, x.cell = true) (hr : Reps S w vs (flatc es))
    (hc : es.length ≤ c) (ha : es = [] ∨ ∃ ad, a = some ad ∧ S ad.block ∧ ∀ (j : Nat) u, vs[j]? = some u → w.cell? (ad.add j) = some u) : Rep S w (.slice a es.length c) (.l es) := by
  rcases ha with rfl | ⟨ad, rfl, hs, hu⟩
  · exact .l0 _ _
  · exact .l ad c k es vs hs hc hk h1 hr.1 hu hr.2
theorem Rep.ptr {S : Nat → Prop} {w : World} {v : Value} {cs : List V} (h : Rep S w v (.r cs)) :
    ∃ (a : Addr) (vs : List Value), v = .pointer (some a) ∧ S a.block ∧ (∀ x ∈ cs, x.cell = true) ∧ Reps S w vs cs ∧ ∀ (j : Nat) u, vs[j]? = some u → w.cell? (a.add j) = some u := by
  cases h with
  | r a _ vs hs h1 hl hu h => exact ⟨a, vs, rfl, hs, h1, ⟨hl, h⟩, hu⟩
theorem Rep.agg {S : Nat → Prop} {w : World} {v : Value} {cs : List V} (h : Rep S w v (.a cs)) :
    ∃ us : List Value, v = .agg us.toArray ∧ (∀ x ∈ cs, x.cell = true) ∧ Reps S w us cs := by
  cases h with
  | a us _ hl h1 h => exact ⟨us.toList, by simp, h1, by simpa using hl, fun j u x hu hx => h j u x (by simpa using hu) hx⟩
theorem Rep.mk_agg {S : Nat → Prop} {w : World} {us : List Value} {cs : List V} (h1 : ∀ x ∈ cs, x.cell = true) (h : Reps S w us cs) : Rep S w (.agg us.toArray) (.a cs) :=
  .a _ _ (by simpa using h.1) h1 fun j u x hu hx => h.2 j u x (by simpa using hu) hx
theorem Rep.cells {S : Nat → Prop} {w : World} {v : Value} {x : V} (h : Rep S w v x) : Reps S w v.cells.toList x.cells := by
  cases h with
  | a us cs hl h1 h => exact ⟨by simpa [Value.cells, V.cells] using hl, fun j u x hu hx => h j u x (by simpa [Value.cells] using hu) (by simpa [V.cells] using hx)⟩
  | b x => exact Reps.cons (.b x) Reps.nil
  | i k n => exact Reps.cons (.i k n) Reps.nil
  | s x => exact Reps.cons (.s x) Reps.nil
  | l0 a c => exact Reps.cons (.l0 a c) Reps.nil
  | l a c k es vs hs hc hk h1 hl hu h => exact Reps.cons (.l a c k es vs hs hc hk h1 hl hu h) Reps.nil
  | r a cs vs hs h1 hl hu h => exact Reps.cons (.r a cs vs hs h1 hl hu h) Reps.nil
  | f fn fs cs xs ys hx hy h h' => exact Reps.cons (.f fn fs cs xs ys hx hy h h') Reps.nil
  | t us ys hl h => exact Reps.cons (.t us ys hl h) Reps.nil
  | nf => exact Reps.cons .nf Reps.nil
  | np => exact Reps.cons .np Reps.nil
  | um r => exact Reps.cons (.um r) Reps.nil
  | pt b => exact Reps.cons (.pt b) Reps.nil
  | mr r => exact Reps.cons (.mr r) Reps.nil

theorem OwnS.frz {P : Program} {S : Nat → Prop} {w : World} {base : Nat} {e : TypeId} {es : List V} {v : Value} (h : OwnS P S w base e es v) {S' : Nat → Prop} (hS : ∀ b, S b → S' b) (hg : ∀ g, blkOf v = some g → S' g) : Rep S' w v (.l es) := by
  obtain ⟨vs, ⟨hl, hv⟩, hk, h1, hr⟩ := h
  rcases hv with ⟨rfl, h0⟩ | ⟨g, cap, cur, rfl, hg', hh, hn, _, hsz, ht⟩
  · have : es = [] := List.eq_nil_of_length_eq_zero h0
    subst this
    exact .l0 _ _
  · refine Rep.mk_slice hk h1 (hr.mono hS) hn (.inr ⟨_, rfl, hg _ rfl, fun j u hj => ?_⟩)
    have hj' : j < vs.length := (List.getElem?_eq_some_iff.1 hj).1
    rw [← ht, List.getElem?_take] at hj
    split at hj
    · simp only [World.cell?, add_block, hh]
      unfold Addr.add
      split
      · rename_i hj0; subst hj0; simpa using hj
      · simpa using hj
    · cases hj
theorem BoxS.frz {S : Nat → Prop} {w : World} {base : Nat} {cs : List V} {v : Value} (h : BoxS S w base cs v) {S' : Nat → Prop} (hS : ∀ b, S b → S' b) (hg : ∀ g, blkOf v = some g → S' g) : Rep S' w v (.r cs) := by
  obtain ⟨g, vs, ty, rfl, hb, hh, h1, hr⟩ := h
  refine .r _ _ vs (hg _ rfl) h1 hr.1 (fun j u hj => ?_) (hr.mono hS).2
  simp only [World.cell?, add_block, hh]
  unfold Addr.add
  split
  · rename_i hj0; subst hj0; simpa using hj
  · simpa using hj
end Go.VM
