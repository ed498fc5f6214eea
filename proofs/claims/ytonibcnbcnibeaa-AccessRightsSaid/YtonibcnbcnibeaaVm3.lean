/-
  From the model's code of a function to the evaluator's: a function that the kernel runs. No program is named here.
-/
import Derived.Test.YtonibcnbcnibeaaVm2
import Derived.Still
namespace Go.VM

def ofCell : Value → Option V
  | .bool x => some (.b x)
  | .int k n => some (.i k n)
  | .string s => some (.s s.data.toList)
  | .slice none 0 0 => some (.l [])
  | .nilFunc => some .nf
  | .pointer none => some .np
  | .func fn ⟨[]⟩ ⟨[]⟩ => some (.f fn [] [])
  | _ => none
def ofCells : List Value → Option (List V)
  | [] => some []
  | v :: r => (ofCell v).bind fun x => (ofCells r).bind fun xs => some (x :: xs)
def ofConst : Value → Option V
  | .agg cs => (ofCells cs.toList).map .a
  | v => ofCell v

section
variable (P : Program)

def isAggB (t : TypeId) : Bool := match P.underlying t with
  | some (.struct _) | some (.array _ _) => true
  | _ => false
def elemTy (t : TypeId) : Option Nat := match P.underlying t with
  | some (.slice e) => some e
  | _ => none
def elemCells (t : TypeId) : Option Nat := match P.underlying t with
  | some (.slice e) => (P.info? e).map (·.size)
  | _ => none
def elemBytes (t : TypeId) : Option Nat := match P.underlying t with
  | some (.slice e) => (P.info? e).map (·.bytes)
  | _ => none
/-- A constant of a type: a nil slice is one of the call's own. -/
def constT (t : TypeId) (v : Value) : Option V := match v with
  | .slice none 0 0 => (elemTy P t).map fun e => .ow e []
  | v => ofConst v
def srcT (t : TypeId) : Operand → Option Src
  | .tmp n => some (.t n)
  | .const v => (constT P t v).map .c
  | .func f => some (.c (.f (.func f) [] []))
  | .global _ => none
def src : Operand → Option Src
  | .tmp n => some (.t n)
  | .const v => (ofConst v).map .c
  | .func f => some (.c (.f (.func f) [] []))
  | .global _ => none
def srcs : List Operand → Option (List Src)
  | [] => some []
  | x :: r => (src x).bind fun s => (srcs r).bind fun ss => some (s :: ss)

def scalFs (g : TypeId → Option (List Nat)) (off : Nat) : List Field → Option (List Nat)
  | [] => some []
  | f :: r => if f.name ≠ "_" ∧ f.offset = off then (g f.type).bind fun ks => if P.cellsOf f.type = ks.length then (scalFs g (off + ks.length) r).map fun l => ks ++ l else none else none
/-- Structs of plain cells, to the bottom, and what each cell is (0 a bool, 1 a number, 2 a string): what '==' may be asked of. -/
def scal : Nat → TypeId → Option (List Nat)
  | 0, _ => none
  | d + 1, t => match P.underlying t with
    | some .bool => some [0]
    | some (.int _) => some [1]
    | some .string => some [2]
    | some (.struct fs) => if P.stoodInHeld t then none else scalFs P (scal d) 0 fs.toList
    | _ => none
/-- Types whose values hold no address. -/
def flatTy : Nat → TypeId → Bool
  | 0, _ => false
  | d + 1, t => match P.underlying t with
    | some .bool | some (.int _) | some .string => true
    | some (.struct fs) => fs.toList.all fun f => flatTy d f.type
    | some (.tuple ts) => ts.toList.all fun t => flatTy d t
    | _ => false

def zeroCells (t : TypeId) : Option (List V) := (P.info? t).bind fun i => i.zero.bind fun z => ofCells z.cells.toList
def places (fs : Array Field) : Option (List (Nat × Nat)) := fs.toList.mapM fun f => (P.info? f.type).map fun i => (f.offset, i.size)
def placed (qs : List (Nat × Nat)) : List (Nat × Operand) → Option (List (Nat × Nat))
  | [] => some []
  | p :: r => (qs[p.1]?).bind fun q => (placed qs r).bind fun l => some (q :: l)

/-- The quiet operations. -/
def qop : Op → Option (XOp × List Operand)
  | .move x | .assign x => some (.mv, [x])
  | .binOp op t x y _ => match op, P.underlying t with
    | .eql, some (.struct _) => (scal P 12 t).map fun ks => (.eqa false ks, [x, y])
    | .neq, some (.struct _) => (scal P 12 t).map fun ks => (.eqa true ks, [x, y])
    | _, some .bool => some (.binb op, [x, y])
    | _, some (.int _) | _, some .string => some (.bin op, [x, y])
    | _, _ => none
  | .unOp op _ x => some (.un op, [x])
  | .convert s d x => match P.underlying s, P.underlying d with
    | some (.int _), some (.int k) => some (.cnv k, [x])
    | _, _ => none
  | .fieldAddr t x i => match P.underlying t with
    | some (.struct fs) => (fs[i]?).bind fun f => if 0 < P.cellsOf f.type then some (.fa f.offset (P.cellsOf f.type), [x]) else none
    | _ => none
  | .field t x i => match P.underlying t with
    | some (.struct fs) => (fs[i]?).bind fun f => if (P.underlying f.type).isSome && (isAggB P f.type || P.cellsOf f.type == 1) then some (.fld f.offset (P.cellsOf f.type) (isAggB P f.type), [x]) else none
    | _ => none
  | .indexAddr t x i => match P.underlying t with
    | some (.slice e) => if (P.underlying e).isSome then some (.ix (P.cellsOf e), [x, i]) else none
    | _ => none
  | .index t x i => match P.underlying t with
    | some .string => some (.idx, [x, i])
    | _ => none
  | .load t a => if (P.underlying t).isSome && (isAggB P t || P.cellsOf t == 1) then some (.ld (P.cellsOf t) (isAggB P t), [a]) else none
  | .slice t x lo hi none => match P.underlying t with
    | some .string => some (.slcs lo.isSome hi.isSome, x :: (lo.toList ++ hi.toList))
    | some (.slice e) => if !(P.underlying e).isSome then none else some (.slc (P.cellsOf (P.elem t)) lo.isSome hi.isSome, x :: (lo.toList ++ hi.toList))
    | _ => none
  | .extract t i => some (.ext i, [t])
  | .build t ps => match P.underlying t with
    | some (.struct fs) => (zeroCells P t).bind fun z => (places P fs).bind fun qs => (placed qs ps.toList).bind fun pl => some (.bld z pl, ps.toList.map (·.2))
    | _ => none
  | .buildSlice t n ps => match elemCells P t with
    | some k => if n * k ≤ 16777216 ∧ 0 < k ∧ ps.toList.map (·.1) = List.range n ∧ (zeroCells P (P.elem t)).isSome then some (.bsl k, ps.toList.map (·.2)) else none
    | none => none
  | .call { callee := .value (.func f), args, .. } => some (.call false f, args.toList)
  | .call { callee := .value x, args, .. } => some (.callv false, x :: args.toList)
  | .call { callee := .builtin .len, args, argTypes } => match args.toList, (argTypes[0]?).bind P.underlying with
    | [x], some .string => some (.slen, [x])
    | [x], some (.slice _) => some (.len, [x])
    | _, _ => none
  | .call { callee := .builtin .max, args, .. } => some (.mx, args.toList)
  | .call { callee := .builtin .min, args, .. } => some (.mn, args.toList)
  | _ => none

/-! ### Mode Q -/

/-- An operation of a region: its guard, what its operands come from, its kind (0: strict, 1: a choice, 2: a copy), its expression. -/
structure QI where
  g : Option (Nat × Bool)
  srcs : List (Option Nat)
  kind : Nat
  x : X
  deriving Inhabited

def defOf (defs : List (Tmp × Nat)) (t : Tmp) : Option Nat := match defs with
  | [] => none
  | p :: r => if p.1 = t then some p.2 else defOf r t
/-- An operand as an expression, and which operation it comes from. -/
def opnd (defs : List (Tmp × Nat)) (is : List QI) : Operand → Option (Option Nat × X)
  | .tmp t => match defOf defs t with
    | some j => (is[j]?).map fun q => (some j, q.x)
    | none => some (none, .sl t)
  | .const v => (ofConst v).map fun c => (none, .k c)
  | .func f => some (none, .k (.f (.func f) [] []))
  | .global _ => none
def opnds (defs : List (Tmp × Nat)) (is : List QI) : List Operand → Option (List (Option Nat × X))
  | [] => some []
  | x :: r => (opnd defs is x).bind fun y => (opnds defs is r).bind fun ys => some (y :: ys)

/-- In a region that draws its order a call's result must be flat, and nothing is made. -/
def drawOp (draw : Bool) : XOp → Option XOp
  | .call _ f => some (.call draw f)
  | .callv _ => some (.callv draw)
  | .bsl k => if draw then none else some (.bsl k)
  | p => some p

def qnode (draw : Bool) (defs : List (Tmp × Nat)) (is : List QI) (o : Oper) : Option QI := match o.op with
  | .pick c a b => (opnd defs is c).bind fun c => (opnd defs is a).bind fun a => (opnd defs is b).bind fun b =>
    some ⟨o.guard, [c.1, a.1, b.1], 1, .ite c.2 a.2 b.2⟩
  | .move x | .assign x => (opnd defs is x).bind fun y => some ⟨o.guard, [y.1], 2, y.2⟩
  | op => (qop P op).bind fun (p, xs) => (drawOp draw p).bind fun p => (opnds defs is xs).bind fun ys => some ⟨o.guard, ys.map (·.1), 0, .op p (ys.map (·.2))⟩

/-- Is the guard's operation the last that wrote its slot? -/
def guardOk (ops : List Oper) (defs : List (Tmp × Nat)) : Option (Nat × Bool) → Bool
  | none => true
  | some (g, _) => match (ops[g]?).bind (·.dst) with
    | some d => defOf defs d == some g
    | none => false

/-- Whenever the guard gi lets through, gj does. -/
def ancG (is : List QI) : Nat → Option (Nat × Bool) → Option (Nat × Bool) → Bool
  | 0, _, gj => gj == none
  | n + 1, gi, gj => gj == none || gj == gi || (match gi with
    | none => false
    | some (c, _) => match is[c]? with
      | some C => ancG is n C.g gj
      | none => false)
def srcOk (is : List QI) (g : Option (Nat × Bool)) (s : Option Nat) : Bool := match s with
  | none => true
  | some j => match is[j]? with
    | some J => ancG is 100 g J.g
    | none => false
def srcOk1 (is : List QI) (g : Option (Nat × Bool)) (c : Option Nat) (b : Bool) (s : Option Nat) : Bool := srcOk is g s || (match c, s with
  | some ci, some j => match is[j]? with
    | some J => J.g == some (ci, b)
    | none => false
  | _, _ => false)
/-- What an operation takes from others has been carried out whenever it is. -/
def srcsOk (is : List QI) (q : QI) : Bool := if q.kind = 1 then (match q.srcs with
    | [c, a, b] => srcOk is q.g c && srcOk1 is q.g c true a && srcOk1 is q.g c false b
    | _ => false)
  else q.srcs.all (srcOk is q.g)

def qgo (draw : Bool) (ops : List Oper) : List Oper → List (Tmp × Nat) → List QI → Option (List (Tmp × Nat) × List QI)
  | [], defs, is => some (defs, is)
  | o :: r, defs, is => match o.dst with
    | none => none
    | some d => if guardOk ops defs o.guard then (qnode P draw defs is o).bind fun q => if srcsOk is q then qgo draw ops r ((d, is.length) :: defs) (is ++ [q]) else none else none

def feeds (is : List QI) (i k : Nat) : Bool := match is[i]?, is[k]? with
  | some I, some K =>
    if K.kind = 1 then
      match K.srcs with
      | [c, a, b] => (c == some i && K.g == I.g) || (match c with
        | some j => ((a == some i && I.g == some (j, true)) || (b == some i && I.g == some (j, false))) && (match is[j]? with
          | some J => J.g == K.g
          | none => false)
        | none => false)
      | _ => false
    else K.srcs.contains (some i) && K.g == I.g
  | _, _ => false
/-- Every operation is a root or feeds a later one. -/
def demanded (is : List QI) (roots : List Nat) : Bool :=
  (List.range is.length).all fun i => roots.contains i || (List.range is.length).any fun k => decide (i < k) && feeds is i k

def rootsOf (defs : List (Tmp × Nat)) (is : List QI) : List Nat → Option (List (Nat × X) × List Nat)
  | [] => some ([], [])
  | d :: r => (rootsOf defs is r).bind fun p => match defOf defs d with
    | none => some p
    | some j => (is[j]?).bind fun q => if q.g.isNone then some ((d, q.x) :: p.1, j :: p.2) else none

/-- Slots of 'keep' that the region writes, in the order of the operations. -/
def writes (keep : List Nat) (ops : List Oper) : List Nat := (ops.filterMap fun o => o.dst.bind fun d => if keep.contains d then some d else none).eraseDups

def quietB (ops : List Oper) : Bool := Region.noSelect ops.toArray && Region.lexB .any ops.toArray

def regQ (nt : Nat) (keep : List Nat) (ops : List Oper) (draw : Bool) : Option (List (Nat × X)) :=
  (qgo P draw ops ops [] []).bind fun (defs, is) => (rootsOf defs is (writes keep ops)).bind fun (rs, js) =>
    if demanded is js && (!draw || quietB ops) && ops.all (fun o => match o.dst with | some d => decide (d < nt) | none => true) then some rs else none

/-! ### Mode S -/

def toSt (o : Oper) : Option St :=
  if o.guard.isSome then none else
  match o.op, o.dst with
  | .move x, some d => (srcT P o.type x).bind fun s => some (.mv d s)
  | .assign x, some d => (srcT P o.type x).bind fun s => some (.as d s)
  | .indexAddr t x i, some d => match P.underlying t with
    | some (.slice e) => (src x).bind fun s => (src i).bind fun j => if (P.underlying e).isSome then some (.ix d (P.cellsOf e) s j) else none
    | _ => none
  | .fieldAddr t x i, some d => match P.underlying t with
    | some (.struct fs) => (fs[i]?).bind fun f => (src x).bind fun s => if 0 < P.cellsOf f.type then some (.fa d f.offset (P.cellsOf f.type) s) else none
    | _ => none
  | .store t a v, none => (src a).bind fun s => (src v).bind fun v => if P.cellsOf t = 0 then none else some (.sto (P.cellsOf t) s v)
  | .extract (.tmp n) i, some d => some (.ext d i n)
  | .box t x, some d => (src x).bind fun s => if P.cellsOf t = 0 then none else some (.box d s)
  | .alloc t, some d => (zeroCells P t).bind fun z => some (.alo d z)
  | .makeFunc fn fs cs, some d => (srcs (fs.toList ++ cs.toList)).bind fun xs => some (.mkf d fn fs.size xs)
  | .buildSlice t n ps, some d => match elemCells P t with
    | some k => (elemTy P t).bind fun e => if n * k ≤ 16777216 ∧ 0 < k ∧ ps.toList.map (·.1) = List.range n ∧ (zeroCells P (P.elem t)).isSome then (srcs (ps.toList.map (·.2))).bind fun xs => some (.bsl d e k xs) else none
    | none => none
  | .call { callee := .builtin .append, args, argTypes }, some d => match args.toList, argTypes.toList with
    | [x, y], [t, u] => (elemCells P t).bind fun k => (elemBytes P t).bind fun b => (srcT P t x).bind fun s => (src y).bind fun z => (elemTy P t).bind fun e => (zeroCells P e).bind fun zc => if t = u ∧ 0 < k ∧ 0 < b ∧ zc.length = k then some (.app d e k b s z) else none
    | _, _ => none
  | op, d => (qop P op).bind fun (p, xs) => (srcs xs).bind fun ss => match p, d with
    | .call _ f, d => some (.call d f ss)
    | .callv _, d => some (.callv d ss)
    | .bld z ps, some d => some (.bld d z ps ss)
    | .slc k lo hi, some d => some (.slc d k lo hi ss)
    | .mv, _ | .ix _, _ | .fa _ _, _ | .ext _, _ | .bsl _, _ => none
    | p, some d => some (.q d p ss)
    | _, none => none
def toSts : List Oper → Option (List St)
  | [] => some []
  | o :: r => (toSt P o).bind fun s => (toSts r).bind fun ss => some (s :: ss)

/-! ### Code -/

def opTmps (o : Oper) : List Nat := o.dst.toList ++ o.op.operands.toList.filterMap fun
  | .tmp t => some t
  | _ => none
def regionsOf : Code → List (List Nat)
  | .region _ ops _ => [(ops.toList.flatMap opTmps).eraseDups]
  | .seq a b => regionsOf a ++ regionsOf b
  | .cond (.tmp t) a b => [t] :: (regionsOf a ++ regionsOf b)
  | .cond _ a b => regionsOf a ++ regionsOf b
  | .block _ a | .loop a | .scope a => regionsOf a
  | _ => []
def resTmps (f : Func) : List Nat := f.results.toList.map fun
  | .tmp t => t
  | .cell t _ => t
def multi (seen : List Nat) (dups : List Nat) : List (List Nat) → List Nat
  | [] => dups
  | l :: r => multi (l.filter (fun t => !seen.contains t) ++ seen) (l.filter (fun t => seen.contains t && !dups.contains t) ++ dups) r
def union (a b : List Nat) : List Nat := a ++ b.filter fun t => !a.contains t
def keepOf (f : Func) (c : Code) : List Nat := union (List.range (f.params.size + f.nfree)) (multi [] [] (resTmps f :: List.range (f.params.size + f.nfree) :: regionsOf c))

def minus (a b : List Nat) : List Nat := a.filter fun t => !b.contains t
/-- Uses ahead of writes, and writes, of a region. -/
def useDef : List Oper → List Nat × List Nat
  | [] => ([], [])
  | o :: r => let (u, d) := useDef r
    let us := o.op.operands.toList.filterMap fun | .tmp t => some t | _ => none
    let ds := if o.guard.isNone then o.dst.toList else []
    (union us.eraseDups (minus u ds), union ds d)
def exitsTo (es : List (Nat × List Nat)) (id : Nat) : List Nat := match es with
  | [] => []
  | p :: r => if p.1 = id then p.2 else exitsTo r id
def live (ret : List Nat) : Code → List (Nat × List Nat) → List Nat → List Nat
  | .region _ ops _, _, out => let (u, d) := useDef ops.toList; union u (minus out d)
  | .seq a b, es, out => live ret a es (live ret b es out)
  | .cond (.tmp t) a b, es, out => union [t] (union (live ret a es out) (live ret b es out))
  | .cond _ a b, es, out => union (live ret a es out) (live ret b es out)
  | .block id a, es, out => live ret a ((id, out) :: es) out
  | .loop a, es, _ => live ret a es (live ret a es [])
  | .scope a, es, out => live ret a es out
  | .exit id, es, _ => exitsTo es id
  | .ret, _, _ => ret
  | _, _, out => out

def ins1 (x : Nat) : List Nat → List Nat
  | [] => [x]
  | y :: r => if x ≤ y then x :: y :: r else y :: ins1 x r
def sort1 (l : List Nat) : List Nat := l.foldr ins1 []

def condX : Operand → Option X
  | .tmp t => some (.sl t)
  | .const (.bool b) => some (.k (.b b))
  | _ => none

def comp (nt : Nat) (keep ret : List Nat) : Code → List (Nat × List Nat) → List Nat → Option C
  | .skip, _, _ => some .skip
  | .region _ ops draw, _, _ =>
    let q := if (writes keep ops.toList).all fun d => (ops.toList.filter fun o => o.dst == some d).all fun o => flatTy P 12 o.type then regQ P nt keep ops.toList draw else none
    match q with
    | some rs => some (.q rs)
    | none => if draw || !ops.toList.all (fun o => match o.dst with | some d => decide (d < nt) | none => true) then none else (toSts P ops.toList).bind fun ss => some (.s ss ((ops.toList.flatMap fun o => o.dst.toList).filter fun t => !keep.contains t))
  | .seq a b, es, out => (comp nt keep ret a es (live ret b es out)).bind fun a => (comp nt keep ret b es out).bind fun b => some (.seq a b)
  | .cond c a b, es, out => (condX c).bind fun x => (comp nt keep ret a es out).bind fun a => (comp nt keep ret b es out).bind fun b => some (.cond x a b)
  | .block id a, es, out => (comp nt keep ret a ((id, out) :: es) out).bind fun a => some (.blk id a)
  | .loop a, es, out => let l := sort1 ((live ret (.loop a) es out).filter fun t => keep.contains t)
    (comp nt keep ret a es l).bind fun c => some (.loop l c)
  | .exit id, es, _ => some (.exit id (sort1 ((exitsTo es id).filter fun t => keep.contains t)))
  | .ret, _, _ => some (.ret ret)
  | _, _, _ => none

def resOf : List ResultVar → Option (List RV)
  | [] => some []
  | .tmp t :: r => (resOf r).map fun rs => .tmp t :: rs
  | .cell t ty :: r => if (P.underlying ty).isSome && (isAggB P ty || P.cellsOf ty == 1) then (resOf r).map fun rs => .cell t (P.cellsOf ty) (isAggB P ty) :: rs else none

def compile (f : Func) : Option FCode := f.body.bind fun c =>
  let ret := resTmps f
  (comp P f.ntmps (keepOf f c) ret c [] ret).bind fun b => (resOf P f.results.toList).bind fun rs => if f.params.size + f.nfree ≤ f.ntmps ∧ (P.follows .mixedOrders = true) then some ⟨f.params.size + f.nfree, rs, b⟩ else none
end
end Go.VM
