/-
  The evaluator over plain data: expressions, steps, structured code, calls. No program is named here.
-/
import Derived.Test.YtonibcnbcnibeaaVm1
namespace Go.VM

/-- A slice or variable of the call's own, as it reads while nobody writes it. -/
def frz : V → V
  | .ow _ es => .l es
  | .bx cs => .r cs
  | x => x

/-- The same of what a call returned. -/
def frzt : V → V
  | .t vs => .t (vs.map frz)
  | x => frz x

abbrev Env := List (Nat × V)
def get (n : Nat) : Env → Option V
  | [] => none
  | p :: env => if n = p.1 then some p.2 else get n env
def put (n : Nat) (x : V) : Env → Env
  | [] => [(n, x)]
  | p :: env => if n < p.1 then (n, x) :: p :: env else if n = p.1 then (n, x) :: env else p :: put n x env
/-- The slot that an entry names. -/
def V.names : V → Option Nat
  | .al n => some n
  | .pe n _ _ _ => some n
  | .pb n _ _ => some n
  | _ => none
def purge (m : Nat) (env : Env) : Env := env.filter fun p => p.2.names != some m
def del (m : Nat) (env : Env) : Env := env.filter fun p => p.1 != m
def keepE (ks : List Nat) (env : Env) : Env := env.filter fun p => ks.contains p.1 && (match p.2.names with | none => true | some m => ks.contains m)
/-- Write a slot; whoever named what it held is forgotten. -/
def put' (n : Nat) (x : V) (env : Env) : Env := match get n env with
  | none => put n x env
  | some _ => put n x (purge n env)

def sub (cs : List V) (off n : Nat) : Option (List V) := if off + n ≤ cs.length then some ((cs.drop off).take n) else none
/-- What an entry reads as that names no other. -/
def rd : V → Option V
  | .al _ | .pe .. | .pb .. | .t _ | .ud => none
  | x => some (frz x)
/-- What a slot reads as. -/
def look (env : Env) (n : Nat) : Option V := match get n env with
  | some (.al m) => (get m env).bind rd
  | some (.pe m i off sz) => match (get m env).bind rd with
    | some (.l es) => (es[i]?).bind fun e => (sub e.cells off sz).map .r
    | _ => none
  | some (.pb m off sz) => match (get m env).bind rd with
    | some (.r cs) => (sub cs off sz).map .r
    | _ => none
  | some x => rd x
  | none => none

def bitsV (op : BinOp) (k : IntKind) (a b : Int) : Int :=
  let x := BitVec.ofInt k.bits a
  let y := BitVec.ofInt k.bits b
  match op with
  | .and => k.wrap (x &&& y).toNat
  | .or => k.wrap (x ||| y).toNat
  | .xor => k.wrap (x ^^^ y).toNat
  | _ => k.wrap (x &&& ~~~y).toNat

def intV (op : BinOp) (k : IntKind) (a b : Int) : Option V :=
  match op with
  | .add => some (.i k (k.wrap (a + b)))
  | .sub => some (.i k (k.wrap (a - b)))
  | .mul => some (.i k (k.wrap (a * b)))
  | .quo => if b = 0 then none else some (.i k (k.wrap (a.tdiv b)))
  | .rem => if b = 0 then none else some (.i k (a.tmod b))
  | .and => some (.i k (bitsV .and k a b))
  | .or => some (.i k (bitsV .or k a b))
  | .xor => some (.i k (bitsV .xor k a b))
  | .andNot => some (.i k (bitsV .andNot k a b))
  | .eql => some (.b (decide (a = b)))
  | .neq => some (.b (!decide (a = b)))
  | .lss => some (.b (decide (a < b)))
  | .leq => some (.b (decide (a ≤ b)))
  | .gtr => some (.b (decide (b < a)))
  | .geq => some (.b (decide (b ≤ a)))
  | _ => none

def strV (op : BinOp) (x y : List UInt8) : Option V :=
  match op with
  | .add => if x.length + y.length ≤ 9223372036854775807 then some (.s (x ++ y)) else none
  | .eql => some (.b (decide (x = y)))
  | .neq => some (.b (!decide (x = y)))
  | .lss => some (.b (Op.bytesLess x y))
  | .leq => some (.b (Op.bytesLess x y || decide (x = y)))
  | .gtr => some (.b (!(Op.bytesLess x y || decide (x = y))))
  | .geq => some (.b (!Op.bytesLess x y))
  | _ => none

def binV (op : BinOp) : V → V → Option V
  | .i k a, .i k' b =>
    match op with
    | .shl => if b < 0 then none else some (.i k (k.wrap (a * 2 ^ (min b.toNat k.bits))))
    | .shr => if b < 0 then none else some (.i k (a.fdiv (2 ^ (min b.toNat k.bits))))
    | op => if k = k' then intV op k a b else none
  | .s x, .s y => strV op x y
  | _, _ => none
def binbV (op : BinOp) : V → V → Option V
  | .b x, .b y => match op with
    | .eql => some (.b (x == y))
    | .neq => some (.b (!(x == y)))
    | _ => none
  | _, _ => none

def unV (op : UnOp) : V → Option V
  | .b x => match op with
    | .not => some (.b (!x))
    | _ => none
  | .i k n => match op with
    | .neg => some (.i k (k.wrap (0 - n)))
    | _ => none
  | _ => none

/-- Two structs of plain cells; the list says of each cell whether it is a bool, a number or a string. -/
def eqCells : List Nat → List V → List V → Option Bool
  | [], [], [] => some true
  | 0 :: ks, .b x :: xs, .b y :: ys => (eqCells ks xs ys).map fun r => (x == y) && r
  | 1 :: ks, .i k x :: xs, .i k' y :: ys => if k = k' then (eqCells ks xs ys).map fun r => decide (x = y) && r else none
  | 2 :: ks, .s x :: xs, .s y :: ys => (eqCells ks xs ys).map fun r => decide (x = y) && r
  | _, _, _ => none

def splice (cs : List V) (off : Nat) (vs : List V) : List V := cs.take off ++ vs ++ cs.drop (off + vs.length)
/-- An element, a part of which is written anew. -/
def newE (e : V) (off : Nat) (y : V) : V := match e with
  | .a cs => .a (splice cs off y.cells)
  | _ => y
def bldV : List V → List (Nat × Nat) → List V → Option (List V)
  | z, [], [] => some z
  | z, (off, sz) :: ps, x :: xs => if x.cells.length = sz ∧ off + sz ≤ z.length ∧ x.cells.all V.cell then bldV (splice z off x.cells) ps xs else none
  | _, _, _ => none

def bytesOf : List V → Option (List UInt8)
  | [] => some []
  | .i .u8 n :: es => (bytesOf es).map fun r => UInt8.ofNat n.toNat :: r
  | _ => none

def maxV : List V → Option V
  | [.i k a] => some (.i k a)
  | .i k a :: .i k' b :: r => if k = k' then maxV (.i k (if b > a then b else a) :: r) else none
  | _ => none
termination_by l => l.length
def minV : List V → Option V
  | [.i k a] => some (.i k a)
  | .i k a :: .i k' b :: r => if k = k' then minV (.i k (if b < a then b else a) :: r) else none
  | _ => none
termination_by l => l.length

inductive XOp where
  | mv
  | bin (op : BinOp) | binb (op : BinOp) | un (op : UnOp) | eqa (neg : Bool) (ks : List Nat) | len | slen
  | fld (off n : Nat) (ag : Bool) | idx | ix (k : Nat) | fa (off n : Nat) | ld (n : Nat) (ag : Bool)
  | call (fl : Bool) (f : Nat) | callv (fl : Bool) | bsl (k : Nat) | cnv (k : IntKind) | b2s | ext (i : Nat) | mx | mn
  | slcs (lo hi : Bool) | slc (k : Nat) (lo hi : Bool) | bld (z : List V) (ps : List (Nat × Nat))
  deriving Inhabited

/-- The bounds of a slice expression over something of length n. -/
def bnds (n : Nat) : Bool → Bool → List V → Option (Nat × Nat)
  | false, false, [] => some (0, n)
  | true, false, [.i _ a] => if 0 ≤ a ∧ a ≤ n then some (a.toNat, n) else none
  | false, true, [.i _ b] => if 0 ≤ b ∧ b ≤ n then some (0, b.toNat) else none
  | true, true, [.i _ a, .i _ b] => if 0 ≤ a ∧ a ≤ b ∧ b ≤ n then some (a.toNat, b.toNat) else none
  | _, _, _ => none

def XOp.loads : XOp → Bool
  | .ld _ _ => true
  | _ => false
abbrev Orc := Nat → List V → Option V

def callV (o : Orc) : List V → Option V
  | .f (.func f) fs cs :: args => o f (fs ++ args ++ cs)
  | _ => none

/-- The quiet operations. -/
def opQ (o : Orc) : XOp → List V → Option V
  | .mv, [x] => some x
  | .bin op, [x, y] => binV op x y
  | .binb op, [x, y] => binbV op x y
  | .un op, [x] => unV op x
  | .eqa neg ks, [.a xs, .a ys] => (eqCells ks xs ys).map fun r => .b (if neg then !r else r)
  | .slen, [.s x] => some (.i .i64 x.length)
  | .len, [.l es] => some (.i .i64 es.length)
  | .fld off n ag, [.a cs] => (sub cs off n).bind fun r => if ag then some (.a r) else r[0]?
  | .idx, [.s x, .i _ n] => if 0 ≤ n then (x[n.toNat]?).map fun c => .i .u8 c.toNat else none
  | .ix k, [.l es, .i _ n] => if 0 ≤ n then (es[n.toNat]?).bind fun e => if e.cells.length = k then some (.r e.cells) else none else none
  | .fa off n, [.r cs] => (sub cs off n).map .r
  | .ld n ag, [.r cs] => if cs.length = n then (if ag then some (.a cs) else cs[0]?) else none
  | .call fl f, args => (o f args).bind fun r => if fl = true → r.uniq = true then some (frzt r) else none
  | .callv fl, args => (callV o args).bind fun r => if fl = true → r.uniq = true then some (frzt r) else none
  | .bsl k, xs => if xs.all (fun x => x.cells.length == k && x.cells.all V.cell) then some (.l xs) else none
  | .cnv k, [.i _ n] => some (.i k (k.wrap n))
  | .b2s, [.l es] => (bytesOf es).map .s
  | .ext i, [.t vs] => vs[i]?
  | .mx, args => maxV args
  | .mn, args => minV args
  | .slcs lo hi, .s x :: bs => (bnds x.length lo hi bs).map fun p => .s ((x.take p.2).drop p.1)
  | .slc k lo hi, .l es :: bs => if es.all (fun x => x.cells.length == k) then (bnds es.length lo hi bs).map fun p => .l ((es.take p.2).drop p.1) else none
  | .bld z ps, xs => (bldV z ps xs).map .a
  | _, _ => none

inductive X where
  | sl (n : Nat)
  | k (v : V)
  | ite (c a b : X)
  | op (p : XOp) (xs : List X)
  deriving Inhabited

mutual
def evalX (o : Orc) (env : Env) : X → Option V
  | .sl n => look env n
  | .k v => some v
  | .ite c a b => (evalX o env c).bind fun v => match v with
    | .b t => if t then evalX o env a else evalX o env b
    | _ => none
  | .op p xs => (evalXs o env xs).bind (opQ o p)
def evalXs (o : Orc) (env : Env) : List X → Option (List V)
  | [] => some []
  | x :: xs => (evalX o env x).bind fun v => (evalXs o env xs).bind fun vs => some (v :: vs)
end

/-- An operand of a step. -/
inductive Src where
  | c (v : V)
  | t (n : Nat)
  deriving Inhabited

inductive St where
  | mv (d : Nat) (s : Src)
  | as (d : Nat) (s : Src)
  | q (d : Nat) (p : XOp) (xs : List Src)
  | ix (d k : Nat) (s i : Src)
  | fa (d off n : Nat) (s : Src)
  | sto (sz : Nat) (s v : Src)
  | app (d e k bytes : Nat) (s y : Src)
  | call (d : Option Nat) (f : Nat) (xs : List Src)
  | callv (d : Option Nat) (xs : List Src)
  | ext (d i n : Nat)
  | bld (d : Nat) (z : List V) (ps : List (Nat × Nat)) (xs : List Src)
  | bsl (d e k : Nat) (xs : List Src)
  | box (d : Nat) (s : Src)
  | alo (d : Nat) (z : List V)
  | mkf (d : Nat) (fn : Fn) (n : Nat) (xs : List Src)
  | slc (d k : Nat) (lo hi : Bool) (xs : List Src)
  | mks (d e bytes : Nat) (z : V) (n : Src)
  | s2b (d e : Nat) (s : Src)
  deriving Inhabited

def V.isOwn : V → Bool
  | .ow _ _ => true
  | .bx _ => true
  | _ => false
/-- The slot whose own memory an operand leads to. -/
def owner (env : Env) : Src → Option Nat
  | .c _ => none
  | .t n => match get n env with
    | some x => match x.names with
      | some m => some m
      | none => if x.isOwn then some n else none
    | none => none
def freeze1 (n : Nat) (env : Env) : Env := match get n env with
  | some x => if x.isOwn then put n (frz x) env else env
  | none => env
def freeze (env : Env) (xs : List Src) : Env := xs.foldl (fun e s => match owner e s with
  | some n => freeze1 n e
  | none => e) env
def lookS (env : Env) : Src → Option V
  | .c v => some (frz v)
  | .t n => look env n
def lookSs (env : Env) : List Src → Option (List V)
  | [] => some []
  | s :: r => (lookS env s).bind fun v => (lookSs env r).bind fun vs => some (v :: vs)

/-- The slot whose own slice slot n holds. -/
def rowOf (env : Env) (n : Nat) : Option Nat := match get n env with
  | some (.al m) => some m
  | some (.ow _ _) => some n
  | _ => none
/-- Hand what slot m owns on to slot d; m names d from now on. -/
def hand (m d : Nat) (x : V) (env : Env) : Env := put m (.al d) (put' d x (purge m env))

def putO (d : Option Nat) (x : V) (env : Env) : Env := match d with
  | some d => put' d x env
  | none => env

def stepS (o : Orc) (env : Env) : St → Option Env
  | .mv d (.c v) => some (put' d v env)
  | .mv d (.t n) => (get n env).bind fun x => match x with
    | .t ys => if d = n then none else some (put' d (.t ys) (put n .ud env))
    | .ud => none
    | x => if d = n ∨ x.names = some d then none else some (put' d (if x.isOwn then .al n else x) env)
  | .as d (.c v) => some (put' d v env)
  | .as d (.t n) => (get n env).bind fun x => match x with
    | .al m => (get m env).bind fun y => match y with
      | .t _ => none
      | .ud => none
      | y => if y.isOwn then (if m = d then none else some (hand m d y env)) else some (put' d y env)
    | .pe .. => none
    | .pb .. => none
    | .t _ => none
    | .ud => none
    | x => if x.isOwn then (if n = d then none else some (hand n d x env)) else some (put' d x env)
  | .q d p xs => (lookSs env xs).bind fun vs => (opQ o p vs).bind fun r => if r.flat1 || p.loads then some (put' d r env) else none
  | .ix d k s i => (lookS env i).bind fun iv => match iv with
    | .i _ j => if 0 ≤ j then (lookS env s).bind fun sv => match sv with
        | .l es => (es[j.toNat]?).bind fun e => if e.cells.length = k then
            (match owner env s with
            | some m => if m = d then none else some (put' d (.pe m j.toNat 0 k) env)
            | none => some (put' d (.r e.cells) env))
          else none
        | _ => none
      else none
    | _ => none
  | .fa d off n (.t s) => (get s env).bind fun x => match x with
    | .bx cs => if s ≠ d ∧ off + n ≤ cs.length then some (put' d (.pb s off n) env) else none
    | .al m => (get m env).bind fun y => match y with
      | .bx cs => if m ≠ d ∧ off + n ≤ cs.length then some (put' d (.pb m off n) env) else none
      | _ => none
    | .pe m i a sz => if m ≠ d ∧ off + n ≤ sz then some (put' d (.pe m i (a + off) n) env) else none
    | .pb m a sz => if m ≠ d ∧ off + n ≤ sz then some (put' d (.pb m (a + off) n) env) else none
    | .r cs => (sub cs off n).bind fun r => some (put' d (.r r) env)
    | _ => none
  | .sto sz (.t s) v => (lookS env v).bind fun y => if y.cells.length = sz ∧ y.cells.all V.cell then
      let env1 := freeze env [v]
      (get s env1).bind fun x => match x with
      | .bx cs => if cs.length = sz then some (put s (.bx y.cells) env1) else none
      | .al m => (get m env1).bind fun z => match z with
        | .bx cs => if cs.length = sz then some (put m (.bx y.cells) env1) else none
        | _ => none
      | .pb m off n => if n = sz then (get m env1).bind fun z => match z with
          | .bx cs => if off + sz ≤ cs.length then some (put m (.bx (splice cs off y.cells)) env1) else none
          | _ => none
        else none
      | .pe m i off n => if n = sz then (get m env1).bind fun z => match z with
          | .ow k es => (es[i]?).bind fun e => if 0 < sz ∧ off + sz ≤ e.cells.length then
              some (put m (.ow k (es.set i (newE e off y))) env1) else none
          | _ => none
        else none
      | _ => none
    else none
  | .app d e k bytes s y => (lookS env y).bind fun yv => match yv with
    | .l ys =>
      if ys.all (fun x => x.cells.length == k) then
        match s with
        | .c (.ow e' []) => if e' = e ∧ ys.length * bytes ≤ 140737488355328 then some (put' d (.ow e ys) env) else none
        | .t n => (rowOf env n).bind fun m => (get m env).bind fun x => match x with
          | .ow e' es => if e' = e ∧ (es.length + ys.length) * bytes ≤ 140737488355328 ∧ owner env y ≠ some m then some (put' d (.ow e (es ++ ys)) (purge n (purge m (del m env)))) else none
          | _ => none
        | _ => none
      else none
    | _ => none
  | .call d f xs => (lookSs env xs).bind fun vs => (o f vs).bind fun r => some (putO d r (if r.flat then env else freeze env xs))
  | .callv d xs => (lookSs env xs).bind fun vs => (callV o vs).bind fun r => some (putO d r (if r.flat then env else freeze env xs))
  | .ext d i n => (get n env).bind fun x => match x with
    | .t vs => (vs[i]?).bind fun y => some (put' d y (put n (.t (vs.set i .ud)) env))
    | _ => none
  | .bld d z ps xs => (lookSs env xs).bind fun vs => (bldV z ps vs).bind fun r => some (put' d (.a r) (freeze env xs))
  | .bsl d e k xs => (lookSs env xs).bind fun vs => if vs.all (fun x => x.cells.length == k && x.cells.all V.cell) then some (put' d (.ow e vs) (freeze env xs)) else none
  | .box d s => (lookS env s).bind fun v => if v.cells.all V.cell then some (put' d (.bx v.cells) (freeze env [s])) else none
  | .alo d z => some (put' d (.bx z) env)
  | .mkf d fn n xs => (lookSs env xs).bind fun vs => some (put' d (.f fn (vs.take n) (vs.drop n)) (freeze env xs))
  | .slc d k lo hi xs => (lookSs env xs).bind fun vs => (opQ o (.slc k lo hi) vs).bind fun r => some (put' d r (freeze env xs))
  | .mks d e bytes z n => (lookS env n).bind fun v => match v with
    | .i .i64 j => if 0 ≤ j ∧ j * bytes ≤ 140737488355328 then some (put' d (.ow e (List.replicate j.toNat z)) env) else none
    | _ => none
  | .s2b d e s => (lookS env s).bind fun v => match v with
    | .s x => some (put' d (.ow e (x.map fun c => .i .u8 c.toNat)) env)
    | _ => none
  | _ => none

def stepsS (o : Orc) : List St → Env → Option Env
  | [], env => some env
  | s :: r, env => (stepS o env s).bind (stepsS o r)

def putsQ (o : Orc) (env : Env) : List (Nat × X) → Env → Option Env
  | [], acc => some acc
  | p :: r, acc => (evalX o env p.2).bind fun v => if v.flat1 then putsQ o env r (put' p.1 v acc) else none

inductive C where
  | skip
  | seq (a b : C)
  | q (rs : List (Nat × X))
  | s (ss : List St) (ks : List Nat)
  | cond (x : X) (a b : C)
  | blk (id : Nat) (c : C)
  | loop (kin : List Nat) (c : C)
  | exit (id : Nat) (ks : List Nat)
  | ret (ks : List Nat)
  deriving Inhabited

inductive Ex where
  | n
  | e (id : Nat)
  | r
  deriving DecidableEq, Inhabited

def dropE (ks : List Nat) (env : Env) : Env := env.filter fun p => !ks.contains p.1 && (match p.2.names with | none => true | some m => !ks.contains m)

/-- n rounds at most. -/
def rounds (f : Env → Option (Ex × Env)) : Nat → Env → Option (Ex × Env)
  | 0, _ => none
  | n + 1, env => (f env).bind fun p => match p.1 with
    | .n => rounds f n p.2
    | e => some (e, p.2)
open Classical in
/-- As many rounds as it takes. -/
noncomputable def looped (f : Env → Option (Ex × Env)) (env : Env) : Option (Ex × Env) :=
  if h : ∃ n, (rounds f n env).isSome = true then rounds f (Classical.choose h) env else none

noncomputable def exec (o : Orc) : C → Env → Option (Ex × Env)
  | .skip, env => some (.n, env)
  | .seq a b, env => (exec o a env).bind fun p => match p.1 with
    | .n => exec o b p.2
    | e => some (e, p.2)
  | .q rs, env => (putsQ o env rs env).bind fun e => some (.n, e)
  | .s ss ks, env => (stepsS o ss env).bind fun e => some (.n, dropE ks e)
  | .cond x a b, env => (evalX o env x).bind fun v => match v with
    | .b t => if t then exec o a env else exec o b env
    | _ => none
  | .blk id c, env => (exec o c env).bind fun p => match p.1 with
    | .e j => if j = id then some (.n, p.2) else some (.e j, p.2)
    | e => some (e, p.2)
  | .loop kin c, env => looped (fun e => exec o c (keepE kin e)) env
  | .exit id ks, env => some (.e id, keepE ks env)
  | .ret ks, env => some (.r, keepE ks env)

/-- Where a result lies: a slot, or a variable of so many cells (a struct or an array?). -/
inductive RV where
  | tmp (t : Nat)
  | cell (t n : Nat) (ag : Bool)
  deriving Inhabited

def resV (env : Env) : RV → Option (V × Env)
  | .tmp t => (get t env).bind fun x => match x with
    | .al m => (get m env).bind fun y => match y with
      | .al _ | .pe .. | .pb .. | .t _ | .ud => none
      | y => some (y, if y.isOwn then put m .ud env else env)
    | .pe .. => none
    | .pb .. => none
    | .t _ => none
    | .ud => none
    | x => some (x, if x.isOwn then put t .ud env else env)
  | .cell t n ag => (look env t).bind fun x => (opQ (fun _ _ => none) (.ld n ag) [x]).bind fun y => some (y, env)
def resVs : List RV → Env → Option (List V)
  | [], _ => some []
  | r :: rs, env => (resV env r).bind fun p => (resVs rs p.2).bind fun vs => some (p.1 :: vs)
def retV (rs : List RV) (env : Env) : Option V := (resVs rs env).map fun vs => match vs with
  | [v] => v
  | vs => .t vs

structure FCode where
  np : Nat
  res : List RV
  body : C
  deriving Inhabited

def args0 (i : Nat) : List V → Env
  | [] => []
  | x :: r => (i, x) :: args0 (i + 1) r
/-- No argument is a tuple. -/
def V.arg : V → Bool
  | .t _ => false
  | _ => true
noncomputable def bodyV (o : Orc) (fc : FCode) (args : List V) : Option V :=
  if args.length = fc.np ∧ args.all V.arg = true then (exec o fc.body (args0 0 args)).bind fun p => match p.1 with
    | .e _ => none
    | _ => retV fc.res p.2
  else none
end Go.VM
