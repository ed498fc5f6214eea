/-
The evaluator and its soundness: part of the proof of the last text.
-/
import Derived.Laws.CopyOwn
import Derived.WalkSpells
import Derived.Deep.Quiet
set_option linter.all false
namespace Go.VM
abbrev aH:=@Option.some.injEq
abbrev aK:=@if_neg
abbrev aY:=@if_pos
abbrev aZ:=@Option.bind_some
abbrev bL:=@Option.bind_eq_some_iff
abbrev cM:=@Prod.mk.injEq
abbrev cZ:=@Go.RowKit.Below.refl
abbrev dC:=@List.mem_cons_self
abbrev dD:=@Nat.le_refl
abbrev dL:=@List.mem_cons_of_mem
abbrev dQ:=@Go.Result.andThen_ok
abbrev dX:=@Go.Sem.run_bind
abbrev eB:=@Option.map_some
abbrev eE:=@Go.run_underlying
abbrev eI:=@List.getElem?_eq_getElem
abbrev eM:=@List.all_eq_true
abbrev eP:=@List.mem_cons
abbrev eU:=@Go.Sem.run_pure
abbrev fA:=@Bool.and_eq_true
abbrev fG:=@Nat.le_trans
abbrev fF:=@List.map_cons
abbrev fE:=@List.getElem?_eq_some_iff
abbrev fU:=@Int.natCast_zero
abbrev fY:=@List.length_cons
abbrev gG:=@List.cons.injEq
abbrev gO:=@List.length_take
abbrev gN:=@List.getElem_mem
abbrev gY:=@Option.map_eq_some_iff
abbrev iC:=@List.mem_append
abbrev jA:=@if_true
abbrev jJ:=@and_true
abbrev jL:=@List.mem_map
abbrev jV:=@congrArg
abbrev j6:=@Array.getElem?_eq_some_iff
abbrev kH:=@List.length_append
abbrev kG:=@List.getElem?_map
abbrev k6:=@List.mem_of_getElem?
abbrev lH:=@List.getElem_of_mem
abbrev mW:=@if_false
abbrev nH:=@List.mem_range
abbrev nW:=@Go.wp_seq
abbrev oG:=@List.mem_append_left
abbrev oF:=@List.map_nil
abbrev oW:=@List.length_drop
abbrev oV:=@Go.IntKind.wrap_i64
abbrev pM:=@beq_iff_eq
abbrev pL:=@List.eq_nil_of_length_eq_zero
abbrev qF:=@List.mem_of_mem_take
abbrev qE:=@List.getElem?_take
abbrev qX:=@List.mem_of_mem_drop
abbrev qW:=@Bool.false_eq_true
abbrev rM:=@List.take_of_length_le
abbrev rL:=@List.size_toArray
abbrev rK:=@List.mem_append_right
abbrev sM:=@List.mem_flatMap
abbrev sL:=@Array.getElem?_eq_getElem
abbrev tK:=@Bool.or_eq_true
abbrev tJ:=@Array.length_toList
abbrev uS:=@decide_eq_true_eq
abbrev uR:=@Option.some.inj
abbrev uQ:=@List.mem_singleton
abbrev uP:=@List.length_map
abbrev uO:=@List.foldl_cons
abbrev vU:=@Nat.lt_of_lt_of_le
abbrev vT:=@List.pairwise_cons
abbrev vS:=@List.mem_filter
abbrev vR:=@List.length_nil
abbrev vQ:=@Array.getElem?_toList
abbrev vP:=@Array.getD_eq_getD_getElem?
abbrev xH:=@or_false
abbrev xG:=@List.not_mem_nil
abbrev xD:=@List.getElem?_drop
abbrev xC:=@List.foldr_nil
abbrev xA:=@List.foldr_cons
abbrev w9:=@Array.toList_inj
abbrev yX:=@Go.wp_region
abbrev yW:=@Go.setRow_other
abbrev yV:=@Go.setRow_heap
abbrev yT:=@eq_true
abbrev yS:=@decide_eq_true
abbrev yR:=@Nat.mul_le_mul_right
abbrev zT:=@decide_eq_false
abbrev zS:=@Int.fdiv_eq_ediv_of_nonneg
abbrev A6:=@Nat.zero_le
abbrev A5:=@List.cons_append
abbrev A4:=@List.append_nil
abbrev AZ:=@List.append_assoc
abbrev BU:=@List.getElem?_append_left
abbrev BT:=@Array.getElem?_setIfInBounds
abbrev CN:=@Go.World.cell?_of_block
abbrev CM:=@Nat.succ_mul
abbrev CL:=@List.getElem?_toArray
abbrev D3:=@bne_iff_ne
abbrev D2:=@Ne.symm
abbrev D1:=@Nat.add_mul
abbrev D0:=@List.take_length
abbrev DZ:=@List.take_append_drop
abbrev DY:=@List.nil_append
abbrev DX:=@List.map_map
abbrev D7:=@List.getElem?_cons_zero
abbrev D6:=@List.getElem?_append_right
abbrev D5:=@List.flatMap_cons
abbrev D4:=@Go.Addr.add_lit
abbrev E1:=@Option.isSome_iff_exists
abbrev E0:=@Nat.zero_add
abbrev EZ:=@Nat.add_zero
abbrev EY:=@List.range_eq_range'
abbrev EX:=@List.getD_eq_getElem?_getD
abbrev EW:=@List.drop_eq_nil_of_le
abbrev EV:=@Classical.choose_spec
abbrev GQ:=@Option.getD_some
abbrev GP:=@List.range'_succ
abbrev GO:=@List.ext_getElem?
abbrev GN:=@Int.tmod_eq_emod_of_nonneg
abbrev GM:=@Iff.rfl
abbrev H3:=@Go.wp_cond
abbrev H2:=@dif_pos
abbrev H1:=@List.take_succ_eq_append_getElem
abbrev H0:=@List.take_append_of_le_length
abbrev HZ:=@List.map_append
abbrev HY:=@List.getElem?_cons_succ
abbrev HX:=@List.all_cons
abbrev HW:=@Array.getElem?_replicate
abbrev HV:=@Array.getElem?_modify
abbrev JP:=@Option.isNone_iff_eq_none
abbrev JO:=@Nat.min_def
abbrev JN:=@Nat.lt_or_ge
abbrev JM:=@List.nodup_cons
abbrev JL:=@List.foldl_append
abbrev JK:=@List.drop_zero
abbrev LO:=@Go.wp_block
abbrev LN:=@true_and
abbrev LM:=@Go.heap_alloc_new
abbrev LL:=@dif_neg
abbrev LK:=@Go.calls_of_wp
abbrev LJ:=@Go.World.ownsRow_nil
abbrev LI:=@List.take_append
abbrev LH:=@List.map_drop
abbrev LG:=@List.length_filter_le
abbrev LF:=@List.filter_cons
abbrev m3:=@List.drop_drop
abbrev LD:=@Int.toNat_natCast
abbrev LC:=@Function.comp_def
abbrev LB:=@Bool.not_eq_true'
abbrev LA:=@Bool.eq_iff_iff
abbrev Kz:=@Go.RowKit.Below.heap_alloc
abbrev Nd:=@Go.run_loadCells_list
abbrev Nc:=@getElem!_pos
abbrev Nb:=@Option.isSome_none
abbrev Na:=@Nat.min_eq_left
abbrev N9:=@List.map_take
abbrev N8:=@Int.tdiv_eq_ediv_of_nonneg
abbrev QN:=@Option.isSome_some
abbrev QM:=@Nat.sub_zero
abbrev QL:=@Nat.not_lt_zero
abbrev QK:=@List.take_take
abbrev QJ:=@List.pairwise_append
abbrev QH:=@List.map_set
abbrev QG:=@List.length_set
abbrev QF:=@List.length_pos_iff
abbrev QE:=@List.getElem?_take_of_lt
abbrev QD:=@List.getElem?_of_mem
abbrev QC:=@List.exists_of_findSome?_eq_some
abbrev QB:=@Bool.true_and
abbrev QA:=@Bool.eq_false_iff
abbrev UK:=@Go.wp_region_any
abbrev UJ:=@Go.run_storeCells_at
abbrev UI:=@map_eq_pure_bind
abbrev UH:=@Go.heap_alloc_old
abbrev UG:=@Go.Value.slice.injEq
abbrev UF:=@Go.Value.pointer.injEq
abbrev UE:=@Nat.lt_irrefl
abbrev UC:=@Nat.add_assoc
abbrev UB:=@List.take_add_one
abbrev UA:=@List.takeWhile_cons
abbrev Tz:=@List.push_toArray
abbrev Ty:=@List.pairwise_iff_getElem
abbrev Tx:=@List.mem_or_eq_of_mem_set
abbrev Tw:=@List.lt_irrefl
abbrev Tv:=@List.getElem_take
abbrev Tu:=@List.getElem_cons_zero
abbrev Tt:=@List.getElem_cons_succ
abbrev Ts:=@List.getElem?_range
abbrev Tq:=@List.getElem?_eq_none
abbrev Tp:=@List.foldl_map
abbrev To:=@List.eraseIdx_eq_take_drop_succ
abbrev Tn:=@List.drop_append
abbrev Tl:=@List.countP_le_length
abbrev Tk:=@List.append_toArray
abbrev Tj:=@Int.zero_add
abbrev Ti:=@Int.emod_nonneg
abbrev Th:=@Int.emod_lt_of_pos
abbrev Tg:=@Array.toList_push
abbrev Tf:=@Array.toList_map
abbrev Te:=@Array.replicate_zero
abbrev Td:=@Array.replicate_succ
abbrev Tc:=@Array.mapM_eq_mapM_toList
abbrev Xd:=@Go.run_append_own_at
abbrev Xc:=@of_decide_eq_true
abbrev Xb:=@Go.World.cell?_alloc_lt
abbrev Xa:=@Nat.le_mul_of_pos_right
abbrev X9:=@Nat.eq_zero_or_pos
abbrev X8:=@List.set_cons_succ
abbrev X7:=@List.replicate_succ
abbrev X5:=@List.getElem?_set
abbrev X4:=@List.getElem?_replicate
abbrev X3:=@List.findSome?_cons
abbrev X2:=@List.filter_eq_self
abbrev X1:=@List.filterMap_cons
abbrev X0:=@Int.toNat_of_nonneg
abbrev XZ:=@Int.natCast_nonneg
abbrev XY:=@Decidable.not_not
abbrev XX:=@Array.size_append
abbrev XW:=@Array.eq_empty_of_size_eq_zero
inductive V where
 |b (x:Bool)
 |i (k:IntKind) (n:Int)
 |s (x:List UInt8)
 |l (es:List V)
 |ow (e:Nat) (es:List V)
 |r (cs:List V)
 |bx (cs:List V)
 |a (cs:List V)
 |t (vs:List V)
 |f (fn:Fn) (fs cs:List V)
 |nf
 |np
 |al (n:Nat)
 |pe (n i off sz:Nat)
 |pb (n off sz:Nat)
 |ud
 |mp (ks vs:List V)
 |um
 |pt (b:Nat)
 |mr (r:Option Nat)
 deriving Inhabited
def V.cells:V->List V
 | .a cs=>cs|v=>[v]
def V.one:V->Bool
 | .a _| .t _=>false|_=>true
def V.cell:V->Bool
 | .b _| .i _ _| .s _| .l _| .r _| .f _ _ _| .nf| .np| .mr _=>true|_=>false
mutual
def V.flat:V->Bool
 | .b _| .i _ _| .s _| .nf| .np| .mr _=>true| .a cs=>flats cs| .t cs=>flats cs| .ow _ es=>flats es| .l es=>es.isEmpty|_=>false
def V.flats:List V->Bool
 |[]=>true|x::rest=>V.flat x&&V.flats rest
end
def V.flat1:V->Bool
 | .t _=>false|x=>x.flat
mutual
def V.uniq:V->Bool
 | .b _| .i _ _| .s _| .nf| .np| .mr _=>true| .a cs=>uniqs cs| .t cs=>uniqs cs|_=>false
def V.uniqs:List V->Bool
 |[]=>true|x::rest=>V.uniq x&&V.uniqs rest
end
mutual
def V.toVal:V->Value
 | .b x=> .bool x| .i k n=> .int k n| .s x=> .string ⟨x.toArray⟩| .nf=> .nilFunc| .np=> .pointer none| .mr m=> .map m| .a cs=> .agg (toVals cs).toArray| .t cs=> .tuple (toVals cs).toArray|_=> .tuple #[]
def V.toVals:List V->List Value
 |[]=>[]|x::rest=>V.toVal x::V.toVals rest
end
def V.uniqs_iff (l:List V):V.uniqs l=true↔∀x∈l,x.uniq=true:=by induction l with|nil=>simp[V.uniqs]|cons x rest ih=>simp[V.uniqs,ih]
def V.toVals_eq (l:List V):V.toVals l=l.map V.toVal:=by induction l with|nil=>simp[V.toVals]|cons x rest ih=>simp[V.toVals,ih]
def V.flats_iff (l:List V):V.flats l=true↔∀x∈l,x.flat=true:=by induction l with|nil=>simp[V.flats]|cons x rest ih=>simp[V.flats,ih]
def cL (es:List V):List V:=es.flatMap V.cells
inductive aP (S:Nat->Prop) (w:World):Value->V->Prop
 |b (x:Bool):aP S w (.bool x) (.b x)
 |i (k:IntKind) (n:Int):aP S w (.int k n) (.i k n)
 |s (x:ByteArray):aP S w (.string x) (.s x.data.toList)
 |l0 (a:Option Addr) (c:Nat):aP S w (.slice a 0 c) (.l [])
 |l (a:Addr) (c k:Nat) (es:List V) (vs:List Value) (hs:S a.block) (hc:es.length<=c) (hk:∀e∈es,e.cells.length=k)
   (h1:∀x∈cL es,x.cell=true) (hl:vs.length=(cL es).length)
   (hu:∀(j:Nat) u,vs[j]? =some u->w.cell? (a.add j)=some u)
   (h:∀(j:Nat) u x,vs[j]? =some u->(cL es)[j]? =some x->aP S w u x):aP S w (.slice (some a) es.length c) (.l es)
 |r (a:Addr) (cs:List V) (vs:List Value) (hs:S a.block) (h1:∀x∈cs,x.cell=true) (hl:vs.length=cs.length)
   (hu:∀(j:Nat) u,vs[j]? =some u->w.cell? (a.add j)=some u)
   (h:∀(j:Nat) u x,vs[j]? =some u->cs[j]? =some x->aP S w u x):aP S w (.pointer (some a)) (.r cs)
 |a (us:Array Value) (cs:List V) (hl:us.size=cs.length) (h1:∀x∈cs,x.cell=true)
   (h:∀(j:Nat) u x,us[j]? =some u->cs[j]? =some x->aP S w u x):aP S w (.agg us) (.a cs)
 |f (fn:Fn) (fs cs:Array Value) (xs ys:List V) (hx:fs.size=xs.length) (hy:cs.size=ys.length)
   (h:∀(j:Nat) u x,fs[j]? =some u->xs[j]? =some x->aP S w u x)
   (h':∀(j:Nat) u x,cs[j]? =some u->ys[j]? =some x->aP S w u x):aP S w (.func fn fs cs) (.f fn xs ys)
 |t (us:Array Value) (ys:List V) (hl:us.size=ys.length) (h:∀(j:Nat) u x,us[j]? =some u->ys[j]? =some x->aP S w u x):aP S w (.tuple us) (.t ys)
 |nf:aP S w .nilFunc .nf
 |np:aP S w (.pointer none) .np
 |um (r:Option Nat):aP S w (.map r) .um
 |pt (b:Nat):aP S w (.pointer (some ⟨b,0,none⟩)) (.pt b)
 |mr (r:Option Nat):aP S w (.map r) (.mr r)
def wZ (a:Addr)(n:Nat):(a.add n).block=a.block:=by unfold Addr.add;split<;>rfl
def aP.move {S S':Nat->Prop}{w w':World}{v:Value}{x:V}(h:aP S w v x)(hS:∀b,S b->S' b)
  (hw:∀p:Addr,S p.block->w'.cell? p=w.cell? p):aP S' w' v x:=by
 induction h with|b x=>exact .b x|i k n=>exact .i k n|s x=>exact .s x|l0 a c=>exact .l0 a c|l a c k es vs hs hc hk h1 hl hu h ih=>exact .l a c k es vs (hS _ hs) hc hk h1 hl (fun j u hj=>(hw _ (by rw[wZ];exact hs)).trans (hu j u hj)) ih|r a cs vs hs h1 hl hu h ih=>exact .r a cs vs (hS _ hs) h1 hl (fun j u hj=>(hw _ (by rw[wZ];exact hs)).trans (hu j u hj)) ih|a us cs hl h1 h ih=>exact .a us cs hl h1 ih|f fn fs cs xs ys hx hy h h' ih ih'=>exact .f fn fs cs xs ys hx hy ih ih'|t us ys hl h ih=>exact .t us ys hl ih|nf=>exact .nf|np=>exact .np|um r=>exact .um r|pt b=>exact .pt b|mr r=>exact .mr r
def aP.mono {S S':Nat->Prop}{w:World}{v:Value}{x:V}(h:aP S w v x)(hS:∀b,S b->S' b):aP S' w v x:=h.move hS fun _ _=>rfl
def aP.keep {S:Nat->Prop}{w w':World}{v:Value}{x:V}(h:aP S w v x)(hw:∀p:Addr,S p.block->w'.cell? p=w.cell? p):aP S w' v x:=h.move (fun _ h=>h) hw
def aP.of_flat {S S':Nat->Prop}{w w':World}{v:Value}{x:V}(h:aP S w v x)(hf:x.flat=true):aP S' w' v x:=by induction h with|b x=>exact .b x|i k n=>exact .i k n|s x=>exact .s x|l0 a c=>exact .l0 a c|l a c k es vs hs hc hk h1 hl hu h ih=>simp only[V.flat,List.isEmpty_iff] at hf;subst hf;exact .l0 _ _|r a cs vs hs h1 hl hu h ih=>simp[V.flat] at hf|a us cs hl h1 h ih=>refine .a us cs hl h1 fun j u x hu hx=>ih j u x hu hx ?_;have:=(V.flats_iff cs).1 hf;exact this x (k6 hx)|f fn fs cs xs ys hx hy h h' ih ih'=>simp[V.flat] at hf|t us ys hl h ih=>refine .t us ys hl fun j u x hu hx=>ih j u x hu hx ?_;have:=(V.flats_iff ys).1 hf;exact this x (k6 hx)|nf=>exact .nf|np=>exact .np|um r=>exact .um r|pt b=>exact .pt b|mr r=>exact .mr r
def aP.val {S:Nat->Prop}{w:World}{v:Value}{x:V}(h:aP S w v x)(hx:x.uniq=true):v=x.toVal:=by
 induction h with
 |b x=>simp[V.toVal]|i k n=>simp[V.toVal]|s x=>simp[V.toVal]|l0 a c=>simp[V.uniq] at hx|l a c k es vs hs hc hk h1 hl hu h ih=>simp[V.uniq] at hx|r a cs vs hs h1 hl hu h ih=>simp[V.uniq] at hx
 |a us cs hl h1 h ih=>
  simp only[V.toVal,V.toVals_eq];congr 1;apply Array.ext;simpa using hl;intro j h2 h3;have hj:j<cs.length:=by simpa using h3
  have:=ih j us[j] cs[j] (sL h2) (eI hj) ((V.uniqs_iff cs).1 (by simpa[V.uniq] using hx) _ (gN hj));simpa using this
 |f fn fs cs xs ys lX hy h h' ih ih'=>simp[V.uniq] at hx
 |t us cs hl h ih=>
  simp only[V.toVal,V.toVals_eq];congr 1;apply Array.ext;simpa using hl;intro j h2 h3;have hj:j<cs.length:=by simpa using h3
  have:=ih j us[j] cs[j] (sL h2) (eI hj) ((V.uniqs_iff cs).1 (by simpa[V.uniq] using hx) _ (gN hj));simpa using this
 |nf=>simp[V.toVal]|np=>simp[V.toVal]|um r=>simp[V.uniq] at hx|pt b=>simp[V.uniq] at hx|mr r=>simp[V.toVal]
def aX (S:Nat->Prop)(w:World)(vs:List Value)(xs:List V):Prop:=vs.length=xs.length/\∀(j:Nat) u x,vs[j]? =some u->xs[j]? =some x->aP S w u x
def aX.nil {S:Nat->Prop}{w:World}:aX S w [] []:=⟨rfl,by simp⟩
def aX.cons {S:Nat->Prop}{w:World}{v:Value}{x:V}{vs:List Value}{xs:List V}(h:aP S w v x)(hs:aX S w vs xs):aX S w (v::vs) (x::xs):=by refine⟨by simp[hs.1],fun j u y hu hy=> ?_⟩;cases j with|zero=>simp at hu hy;subst hu;subst hy;exact h|succ j=>simp at hu hy;exact hs.2 j u y hu hy
def aX.head {S:Nat->Prop}{w:World}{v:Value}{x:V}{vs:List Value}{xs:List V}(hs:aX S w (v::vs) (x::xs)):aP S w v x:=hs.2 0 v x rfl rfl
def aX.tail {S:Nat->Prop}{w:World}{v:Value}{x:V}{vs:List Value}{xs:List V}(hs:aX S w (v::vs) (x::xs)):aX S w vs xs:=
 ⟨by simpa using hs.1,fun j u y hu hy=>hs.2 (j+1) u y (by simpa using hu) (by simpa using hy)⟩
def aX.move {S S':Nat->Prop}{w w':World}{vs:List Value}{xs:List V}(h:aX S w vs xs)(hS:∀b,S b->S' b)
  (hw:∀p:Addr,S p.block->w'.cell? p=w.cell? p):aX S' w' vs xs:=⟨h.1,fun j u x hu hx=>(h.2 j u x hu hx).move hS hw⟩
def aX.append {S:Nat->Prop}{w:World}{vs us:List Value}{xs ys:List V}(h:aX S w vs xs)(h':aX S w us ys):aX S w (vs++us) (xs++ys):=by induction vs generalizing xs with|nil=>have:xs=[]:=pL (by simpa using h.1.symm);subst this;simpa using h'|cons v vs ih=>cases xs with|nil=>exact absurd h.1 (by simp)|cons x xs=>exact aX.cons h.head (ih h.tail)
end Go.VM
namespace Go.VM
def frz:V->V
 | .ow _ es=> .l es| .bx cs=> .r cs| .mp _ _=> .um|x=>x
def frzt:V->V
 | .t vs=> .t (vs.map frz)|x=>frz x
structure T6 where
 ty:Nat
 ret:Bool
 nl:Bool
 run:List V->List V->Option (List V)
 pos:Nat
def lC {α:Type}:Nat->α->List α->List α
 |0,x,l=>x::l|n+1,x,y::l=>y::lC n x l|_+1,x,[]=>[x]
def Js {α:Type}:Nat->List α->Option (α×List α)
 |0,[]=>none|_+1,[]=>none|0,x::l=>some (x,l)|n+1,y::l=>(Js n l).map fun p=>(p.1,y::p.2)
def bP9 {α β:Type}(f:α->β):∀(n:Nat) (x:α) (l:List α),(lC n x l).map f=lC n (f x) (l.map f)
 |0,_,_=>rfl|n+1,x,[]=>rfl|n+1,x,y::l=>by simp only[lC,fF,bP9 f n x l]
class cB where
 gs:List (Nat×List V)
 muts:List (Nat×T6)
def yH [cB](g:Nat):Option V:=(cB.gs.lookup g).map .r
def Bk [cB](f:Nat):T6:=(cB.muts.lookup f).getD ⟨0,false,false,fun _ _=>none,0⟩
abbrev aG:=List (Nat×V)
def aF (n:Nat):aG->Option V
 |[]=>none|p::aA=>if n=p.1 then some p.2 else aF n aA
def put (n:Nat)(x:V):aG->aG
 |[]=>[(n,x)]|p::aA=>if n<p.1 then(n,x)::p::aA else if n=p.1 then(n,x)::aA else p::put n x aA
def V.names:V->Option Nat
 | .al n=>some n| .pe n _ _ _=>some n| .pb n _ _=>some n|_=>none
def cN (m:Nat)(aA:aG):aG:=aA.filter fun p=>p.2.names !=some m
def eH (m:Nat)(aA:aG):aG:=aA.filter fun p=>p.1 !=m
def keepE (ks:List Nat)(aA:aG):aG:=aA.filter fun p=>ks.contains p.1&&(match p.2.names with |none=>true|some m=>ks.contains m)
def put' (n:Nat)(x:V)(aA:aG):aG:=match aF n aA with|none=>put n x aA|some _=>put n x (cN n aA)
def sub (cs:List V)(off n:Nat):Option (List V):=if off+n<=cs.length then some ((cs.drop off).take n) else none
def BK:V->Option V
 | .al _| .pe .. | .pb .. | .t _| .ud=>none|x=>some (frz x)
def iH (aA:aG)(n:Nat):Option V:=match aF n aA with
 |some (.al m)=>(aF m aA).bind BK
 |some (.pe m i off sz)=>match(aF m aA).bind BK with
  |some (.l es)=>(es[i]?).bind fun e=>(sub e.cells off sz).map .r|_=>none
 |some (.pb m off sz)=>match(aF m aA).bind BK with
  |some (.r cs)=>(sub cs off sz).map .r|_=>none
 |some x=>BK x|none=>none
def wX (op:BinOp)(k:IntKind)(a b:Int):Int:=
 let x:=BitVec.ofInt k.bits a;let y:=BitVec.ofInt k.bits b
 match op with| .and=>k.wrap (x &&& y).toNat| .or=>k.wrap (x ||| y).toNat| .xor=>k.wrap (x ^^^ y).toNat|_=>k.wrap (x &&& ~~~y).toNat
def zC (op:BinOp)(k:IntKind)(a b:Int):Option V:=
 match op with| .add=>some (.i k (k.wrap (a+b)))| .sub=>some (.i k (k.wrap (a - b)))| .mul=>some (.i k (k.wrap (a*b)))| .quo=>if b=0 then none else some (.i k (k.wrap (a.tdiv b)))| .rem=>if b=0 then none else some (.i k (a.tmod b))| .and=>some (.i k (wX .and k a b))| .or=>some (.i k (wX .or k a b))| .xor=>some (.i k (wX .xor k a b))| .andNot=>some (.i k (wX .andNot k a b))| .eql=>some (.b (decide (a=b)))| .neq=>some (.b (!decide (a=b)))| .lss=>some (.b (decide (a<b)))| .leq=>some (.b (decide (a<=b)))| .gtr=>some (.b (decide (b<a)))| .geq=>some (.b (decide (b<=a)))|_=>none
def Hz (op:BinOp)(x y:List UInt8):Option V:=
 match op with| .add=>if x.length+y.length<=9223372036854775807 then some (.s (x++y)) else none| .eql=>some (.b (decide (x=y)))| .neq=>some (.b (!decide (x=y)))| .lss=>some (.b (Op.bytesLess x y))| .leq=>some (.b (Op.bytesLess x y||decide (x=y)))| .gtr=>some (.b (!(Op.bytesLess x y||decide (x=y))))| .geq=>some (.b (!Op.bytesLess x y))|_=>none
def lQ (op:BinOp):V->V->Option V
 | .i k a,.i k' b=>
  match op with| .shl=>if b<0 then none else some (.i k (k.wrap (a*2 ^ (min b.toNat k.bits))))| .shr=>if b<0 then none else some (.i k (a.fdiv (2 ^ (min b.toNat k.bits))))|op=>if k=k' then zC op k a b else none
 | .s x,.s y=>Hz op x y|_,_=>none
def Kg (op:BinOp):V->V->Option V
 | .b x,.b y=>match op with
  | .eql=>some (.b (x==y))| .neq=>some (.b (!(x==y)))|_=>none
 |_,_=>none
def H5 (op:UnOp):V->Option V
 | .b x=>match op with
  | .not=>some (.b (!x))|_=>none
 | .i k n=>match op with
  | .neg=>some (.i k (k.wrap (0 - n)))| .xor=>some (.i k (wX .xor k (if k.signed then -1 else k.max) n))|_=>none
 |_=>none
def iL:List Nat->List V->List V->Option Bool
 |[],[],[]=>some true|0::ks,.b x::xs,.b y::ys=>(iL ks xs ys).map fun r=>(x==y)&&r|1::ks,.i k x::xs,.i k' y::ys=>if k=k' then(iL ks xs ys).map fun r=>decide (x=y)&&r else none|2::ks,.s x::xs,.s y::ys=>(iL ks xs ys).map fun r=>decide (x=y)&&r|_,_,_=>none
def splice (cs:List V)(off:Nat)(vs:List V):List V:=cs.take off++vs++cs.drop (off+vs.length)
def Oe (e:V)(off:Nat)(y:V):V:=match e with| .a cs=> .a (splice cs off y.cells)|_=>y
def yM:List V->List (Nat×Nat)->List V->Option (List V)
 |z,[],[]=>some z|z,(off,sz)::ps,x::xs=>if x.cells.length=sz/\off+sz<=z.length/\x.cells.all V.cell then yM (splice z off x.cells) ps xs else none|_,_,_=>none
def iA:Nat->V->Bool
 |0,.b _=>true|1,.s _=>true|2,.i .i64 _=>true|_,_=>false
def rD:V->V->Bool
 | .b x,.b y=>x==y| .s x,.s y=>decide (x=y)| .i _ a,.i _ b=>decide (a=b)|_,_=>false
def f9 (k:V):List V->List V->Option V
 |x::ks,v::vs=>if rD k x then some v else f9 k ks vs|_,_=>none
def mD (k:V):List V->List V
 |x::ks=>if rD k x then x::ks else x::mD k ks|[]=>[k]
def mC (k v:V):List V->List V->List V
 |x::ks,y::vs=>if rD k x then v::vs else y::mC k v ks vs|_,_=>[v]
def Is:List V->Option (List UInt8)
 |[]=>some []| .i .u8 n::es=>(Is es).map fun r=>UInt8.ofNat n.toNat::r|_=>none
def Ok (k:IntKind):Int->List V->Option V
 |a,[]=>some (.i k a)|a,.i k' b::r=>if k=k' then Ok k (if b>a then b else a) r else none|_,_=>none
def Ey:List V->Option V
 | .i k a::r=>Ok k a r|_=>none
def dT7 (k k':IntKind)(a b:Int)(r:List V):Ey (.i k a:: .i k' b::r)=if k=k' then Ey (.i k (if b>a then b else a)::r) else none:=by simp only[Ey,Ok]
def Oh (k:IntKind):Int->List V->Option V
 |a,[]=>some (.i k a)|a,.i k' b::r=>if k=k' then Oh k (if b<a then b else a) r else none|_,_=>none
def Ew:List V->Option V
 | .i k a::r=>Oh k a r|_=>none
def dT3 (k k':IntKind)(a b:Int)(r:List V):Ew (.i k a:: .i k' b::r)=if k=k' then Ew (.i k (if b<a then b else a)::r) else none:=by simp only[Ew,Oh]
inductive jU where
 |mv
 |bin (op:BinOp)|binb (op:BinOp)|un (op:UnOp)|eqa (neg:Bool) (ks:List Nat)|len|slen
 |fld (off n:Nat) (ag:Bool)|idx|ix (k:Nat)|fa (off n:Nat)|ld (n:Nat) (ag:Bool)
 |call (fl:Bool) (f:Nat)|callv (fl:Bool)|bsl (k:Nat)|cnv (k:IntKind)|b2s|ext (i:Nat)|mx|mn
 |aix (n k:Nat) (ag:Bool)|pix (n k:Nat)
 |slcs (lo hi:Bool)|slc (k:Nat) (lo hi:Bool)|bld (z:List V) (ps:List (Nat×Nat))
 deriving Inhabited
def pK (n:Nat):Bool->Bool->List V->Option (Nat×Nat)
 |false,false,[]=>some (0,n)|true,false,[.i _ a]=>if 0<=a/\a<=n then some (a.toNat,n) else none|false,true,[.i _ b]=>if 0<=b/\b<=n then some (0,b.toNat) else none|true,true,[.i _ a,.i _ b]=>if 0<=a/\a<=b/\b<=n then some (a.toNat,b.toNat) else none|_,_,_=>none
def jU.loads:jU->Bool
 | .ld _ _| .fld _ _ _=>true|_=>false
abbrev aU:=Nat->List V->Option V
def AX (o:aU):List V->Option V
 | .f (.func f) fs cs::args=>o f (fs++args++cs)|_=>none
def aS (o:aU):jU->List V->Option V
 | .mv,[x]=>some x| .bin op,[x,y]=>lQ op x y| .binb op,[x,y]=>Kg op x y| .un op,[x]=>H5 op x| .eqa neg ks,[.a xs,.a ys]=>(iL ks xs ys).map fun r=> .b (if neg then !r else r)| .slen,[.s x]=>some (.i .i64 x.length)| .len,[.l es]=>some (.i .i64 es.length)| .fld off n ag,[.a cs]=>(sub cs off n).bind fun r=>if ag then some (.a r) else r[0]?| .idx,[.s x,.i _ n]=>if 0<=n then(x[n.toNat]?).map fun c=> .i .u8 c.toNat else none| .ix k,[.l es,.i _ n]=>if 0<=n then(es[n.toNat]?).bind fun e=>if e.cells.length=k then some (.r e.cells) else none else none| .fa off n,[.r cs]=>(sub cs off n).map .r| .aix len k ag,[.a cs,.i _ n]=>if 0<=n/\n<(len:Int) then(sub cs (n.toNat*k) k).bind fun r=>if ag then some (.a r) else r[0]? else none| .pix len k,[.r cs,.i _ n]=>if 0<=n/\n<(len:Int) then(sub cs (n.toNat*k) k).map .r else none| .ld n ag,[.r cs]=>if cs.length=n then(if ag then some (.a cs) else cs[0]?) else none| .call fl f,args=>(o f args).bind fun r=>if fl=true->r.uniq=true then some (frzt r) else none| .callv fl,args=>(AX o args).bind fun r=>if fl=true->r.uniq=true then some (frzt r) else none| .bsl k,xs=>if xs.all (fun x=>x.cells.length==k&&x.cells.all V.cell) then some (.l xs) else none| .cnv k,[.i _ n]=>some (.i k (k.wrap n))| .b2s,[.l es]=>(Is es).map .s| .ext i,[.t vs]=>vs[i]?| .mx,args=>Ey args| .mn,args=>Ew args| .slcs lo hi,.s x::bs=>(pK x.length lo hi bs).map fun p=> .s ((x.take p.2).drop p.1)| .slc k lo hi,.l es::bs=>if es.all (fun x=>x.cells.length==k) then(pK es.length lo hi bs).map fun p=> .l ((es.take p.2).drop p.1) else none| .bld z ps,xs=>(yM z ps xs).map .a|_,_=>none
inductive X where
 |sl (n:Nat)
 |k (v:V)
 |ite (c a b:X)
 |op (p:jU) (xs:List X)
 deriving Inhabited
mutual
def dJ (o:aU)(aA:aG):X->Option V
 | .sl n=>iH aA n| .k v=>some v
 | .ite c a b=>(dJ o aA c).bind fun v=>match v with
  | .b t=>if t then dJ o aA a else dJ o aA b|_=>none
 | .op p xs=>(vI o aA xs).bind (aS o p)
def vI (o:aU)(aA:aG):List X->Option (List V)
 |[]=>some []|x::xs=>(dJ o aA x).bind fun v=>(vI o aA xs).bind fun vs=>some (v::vs)
end
inductive bF where
 |c (v:V)
 |t (n:Nat)
 deriving Inhabited
inductive St where
 |mv (d:Nat) (s:bF)
 |as (d:Nat) (s:bF)
 |q (d:Nat) (p:jU) (xs:List bF)
 |ix (d k:Nat) (s i:bF)
 |fa (d off n:Nat) (s:bF)
 |sto (sz:Nat) (s v:bF)
 |app (d e k bytes:Nat) (s y:bF)
 |call (d:Option Nat) (f:Nat) (xs:List bF)
 |callv (d:Option Nat) (xs:List bF)
 |ext (d i n:Nat)
 |bld (d:Nat) (z:List V) (ps:List (Nat×Nat)) (xs:List bF)
 |bsl (d e k:Nat) (xs:List bF)
 |box (d:Nat) (s:bF)
 |alo (d:Nat) (z:List V)
 |mkf (d:Nat) (fn:Fn) (n:Nat) (xs:List bF)
 |slc (d k:Nat) (lo hi:Bool) (xs:List bF)
 |mks (d e bytes:Nat) (z:V) (n:bF)
 |s2b (d e:Nat) (s:bF)
 |mkm (d:Nat)
 |mget (d kt:Nat) (z:V) (s k:bF)
 |mset (kt:Nat) (s k v:bF)
 |callm (d:Option Nat) (f:Nat) (mu:T6) (s:bF) (xs:List bF)
 |cpy (d:Option Nat) (e k:Nat) (s y:bF)
 deriving Inhabited
def V.isOwn:V->Bool
 | .ow _ _=>true| .bx _=>true| .mp _ _=>true|_=>false
def owner (aA:aG):bF->Option Nat
 | .c _=>none
 | .t n=>match aF n aA with
  |some x=>match x.names with
   |some m=>some m|none=>if x.isOwn then some n else none
  |none=>none
def freeze1 (n:Nat)(aA:aG):aG:=match aF n aA with|some x=>if x.isOwn then put n (frz x) aA else aA|none=>aA
def freeze (aA:aG)(xs:List bF):aG:=xs.foldl (fun e s=>match owner e s with
 |some n=>freeze1 n e
 |none=>e) aA
def dK (aA:aG):bF->Option V
 | .c v=>some (frz v)| .t n=>iH aA n
def eC (aA:aG):List bF->Option (List V)
 |[]=>some []|s::r=>(dK aA s).bind fun v=>(eC aA r).bind fun vs=>some (v::vs)
def wG (aA:aG)(n:Nat):Option Nat:=match aF n aA with|some (.al m)=>some m|some (.ow _ _)=>some n|_=>none
def hand (m d:Nat)(x:V)(aA:aG):aG:=put m (.al d) (put' d x (cN m aA))
def Al (aA:aG)(n:Nat):Option (Nat×List V×List V):=match aF n aA with
 |some (.mp ks vs)=>some (n,ks,vs)
 |some (.al m)=>match aF m aA with
  |some (.mp ks vs)=>some (m,ks,vs)|_=>none
 |_=>none
def lJ (aA:aG):List bF->Bool
 |[]=>true|s::r=>(owner aA s).isNone&&lJ aA r
def On (aA:aG)(s:bF):Option V:=if(owner aA s).isNone then dK aA s else match s with
 | .c _=>none
 | .t n=>match aF n aA with
  |some (.ow e es)=>some (.ow e es)
  |some (.al m)=>match aF m aA with
   |some (.ow e es)=>some (.ow e es)|_=>none
  |_=>none
def Ez (aA:aG):List bF->Option (List V)
 |[]=>some []|s::r=>(On aA s).bind fun v=>(Ez aA r).bind fun vs=>some (v::vs)
def Ju (aA:aG)(m:Nat):List bF->Bool
 |[]=>true|s::r=>(owner aA s !=some m)&&Ju aA m r
def rC (d:Option Nat)(x:V)(aA:aG):aG:=match d with|some d=>put' d x aA|none=>aA
def bS (o:aU)(aA:aG):St->Option aG
 | .mv d (.c v)=>some (put' d v aA)
 | .mv d (.t n)=>(aF n aA).bind fun x=>match x with
  | .t ys=>if d=n then none else some (put' d (.t ys) (put n .ud aA))| .ud=>none|x=>if d=n\/x.names=some d then none else some (put' d (if x.isOwn then .al n else x) aA)
 | .as d (.c v)=>some (put' d v aA)
 | .as d (.t n)=>(aF n aA).bind fun x=>match x with
  | .al m=>(aF m aA).bind fun y=>match y with
   | .t _=>none| .ud=>none|y=>if y.isOwn then(if m=d then none else some (hand m d y aA)) else some (put' d y aA)
  | .pe .. =>none| .pb .. =>none| .t _=>none| .ud=>none|x=>if x.isOwn then(if n=d then none else some (hand n d x aA)) else some (put' d x aA)
 | .q d p xs=>(eC aA xs).bind fun vs=>(aS o p vs).bind fun r=>if r.flat1||p.loads then some (put' d r aA) else none
 | .ix d k s i=>(dK aA i).bind fun iv=>match iv with
  | .i _ j=>if 0<=j then(dK aA s).bind fun sv=>match sv with
    | .l es=>(es[j.toNat]?).bind fun e=>if e.cells.length=k then
      (match owner aA s with
      |some m=>if m=d then none else some (put' d (.pe m j.toNat 0 k) aA)
      |none=>some (put' d (.r e.cells) aA))
     else none
    |_=>none
   else none
  |_=>none
 | .fa d off n (.t s)=>(aF s aA).bind fun x=>match x with
  | .bx cs=>if s≠d/\off+n<=cs.length then some (put' d (.pb s off n) aA) else none
  | .al m=>(aF m aA).bind fun y=>match y with
   | .bx cs=>if m≠d/\off+n<=cs.length then some (put' d (.pb m off n) aA) else none|_=>none
  | .pe m i a sz=>if m≠d/\off+n<=sz then some (put' d (.pe m i (a+off) n) aA) else none| .pb m a sz=>if m≠d/\off+n<=sz then some (put' d (.pb m (a+off) n) aA) else none| .r cs=>(sub cs off n).bind fun r=>some (put' d (.r r) aA)|_=>none
 | .sto sz (.t s) v=>(dK aA v).bind fun y=>if y.cells.length=sz/\y.cells.all V.cell then
   let aM:=freeze aA [v]
   (aF s aM).bind fun x=>match x with
   | .bx cs=>if cs.length=sz then some (put s (.bx y.cells) aM) else none
   | .al m=>(aF m aM).bind fun z=>match z with
    | .bx cs=>if cs.length=sz then some (put m (.bx y.cells) aM) else none|_=>none
   | .pb m off n=>if n=sz then(aF m aM).bind fun z=>match z with
     | .bx cs=>if off+sz<=cs.length then some (put m (.bx (splice cs off y.cells)) aM) else none|_=>none
    else none
   | .pe m i off n=>if n=sz then(aF m aM).bind fun z=>match z with
     | .ow k es=>(es[i]?).bind fun e=>if 0<sz/\off+sz<=e.cells.length then
       some (put m (.ow k (es.set i (Oe e off y))) aM) else none
     |_=>none
    else none
   |_=>none
  else none
 | .app d e k bytes s y=>(dK aA y).bind fun yv=>match yv with
  | .l ys=>
   if ys.all (fun x=>x.cells.length==k) then
    match s with
    | .c (.ow e' [])=>if e'=e/\ys.length*bytes<=140737488355328 then some (put' d (.ow e ys) aA) else none
    | .t n=>(wG aA n).bind fun m=>(aF m aA).bind fun x=>match x with
     | .ow e' es=>if e'=e/\(es.length+ys.length)*bytes<=140737488355328/\owner aA y≠some m then some (put' d (.ow e (es++ys)) (cN n (cN m (eH m aA)))) else none|_=>none
    |_=>none
   else none
  |_=>none
 | .call d f xs=>(eC aA xs).bind fun vs=>(o f vs).bind fun r=>some (rC d r (if r.flat then aA else freeze aA xs))| .callv d xs=>(eC aA xs).bind fun vs=>(AX o vs).bind fun r=>some (rC d r (if r.flat then aA else freeze aA xs))
 | .ext d i n=>(aF n aA).bind fun x=>match x with
  | .t vs=>(vs[i]?).bind fun y=>some (put' d y (if y.isOwn then put n (.t (vs.set i .ud)) aA else aA))|_=>none
 | .bld d z ps xs=>(eC aA xs).bind fun vs=>(yM z ps vs).bind fun r=>some (put' d (.a r) (freeze aA xs))| .bsl d e k xs=>(eC aA xs).bind fun vs=>if vs.all (fun x=>x.cells.length==k&&x.cells.all V.cell) then some (put' d (.ow e vs) (freeze aA xs)) else none| .box d s=>(dK aA s).bind fun v=>if v.cells.all V.cell then some (put' d (.bx v.cells) (freeze aA [s])) else none| .alo d z=>some (put' d (.bx z) aA)| .mkf d fn n xs=>(eC aA xs).bind fun vs=>some (put' d (.f fn (vs.take n) (vs.drop n)) (freeze aA xs))| .slc d k lo hi xs=>(eC aA xs).bind fun vs=>(aS o (.slc k lo hi) vs).bind fun r=>some (put' d r (freeze aA xs))
 | .mks d e bytes z n=>(dK aA n).bind fun v=>match v with
  | .i .i64 j=>if 0<=j/\j*bytes<=140737488355328 then some (put' d (.ow e (List.replicate j.toNat z)) aA) else none|_=>none
 | .s2b d _ s=>(dK aA s).bind fun v=>match v with
  | .s x=>some (put' d (.l (x.map fun c=> .i .u8 c.toNat)) aA)|_=>none
 | .mkm d=>some (put' d (.mp [] []) aA)
 | .mget d kt z (.t n) k=>(dK aA k).bind fun kv=>(Al aA n).bind fun p=>
  if iA kt kv&&p.2.1.all (iA kt)&&((f9 kv p.2.1 p.2.2).getD z).cell&&((f9 kv p.2.1 p.2.2).getD z).uniq then some (put' d ((f9 kv p.2.1 p.2.2).getD z) aA) else none
 | .mset kt (.t n) k v=>(dK aA k).bind fun kv=>(dK aA v).bind fun x=>(Al aA n).bind fun p=>
  if iA kt kv&&p.2.1.all (iA kt)&&x.cell&&x.uniq then some (put p.1 (.mp (mD kv p.2.1) (mC kv x p.2.1 p.2.2)) aA) else none
 | .callm d _ mu (.t n) xs=>(Ez aA xs).bind fun vs=>(wG aA n).bind fun m=>(aF m aA).bind fun x=>match x with
  | .ow e es=>if e=mu.ty/\mu.nl=false/\Ju aA m xs=true then(mu.run es vs).bind fun bW=>
    if mu.ret then d.map fun d=>put' d (.ow e bW) (cN n (cN m (eH m aA)))
    else some (rC d (.t []) (put' m (.ow e bW) (cN m (eH m aA))))
   else none
  |_=>none
 | .cpy d e k (.t n) y=>(dK aA y).bind fun yv=>(wG aA n).bind fun m=>(aF m aA).bind fun x=>match yv,x with
  | .l ys,.ow e' es=>if e'=e/\0<es.length/\0<k/\ys.all (fun x=>x.cells.length==k)=true then some (rC d (.i .i64 ((Nat.min ys.length es.length:Nat):Int)) (put' m (.ow e (ys.take es.length++es.drop ys.length)) (cN m (eH m aA)))) else none|_,_=>none
 | .callm d _ mu (.c (.l [])) xs=>(eC aA xs).bind fun vs=>if mu.ret=true/\lJ aA xs=true then(mu.run [] vs).bind fun bW=>d.map fun d=>put' d (.ow mu.ty bW) aA else none|_=>none
def nM (o:aU):List St->aG->Option aG
 |[],aA=>some aA|s::r,aA=>(bS o aA s).bind (nM o r)
inductive gX where
 |s (st:St)
 |gd (c:Nat) (t:Bool) (d:Option Nat) (st:St)
 |pick (d c:Nat) (a b:bF)
 deriving Inhabited
def mB (o:aU)(aA:aG):gX->Option aG
 | .s st=>bS o aA st
 | .gd c t d st=>(iH aA c).bind fun v=>match v with
  | .b u=>if u=t then bS o aA st else some (rC d .ud aA)|_=>none
 | .pick d c a b=>(iH aA c).bind fun v=>match v with
  | .b u=>(if u=true then dK aA a else dK aA b).bind fun r=>if r.flat1 then some (put' d r aA) else none|_=>none
def C2 (o:aU):List gX->aG->Option aG
 |[],aA=>some aA|s::r,aA=>(mB o aA s).bind (C2 o r)
def sV (aA:aG)(n:Nat):List Nat:=match(aF n aA).bind V.names with|some m=>[n,m]|none=>[n]
def oA (aA:aG):bF->List Nat
 | .c _=>[]| .t n=>sV aA n
def fH (aA:aG):List bF->List Nat
 |[]=>[]|s::r=>oA aA s++fH aA r
def eJ0:Option V->Bool
 |some r=>r.flat|none=>false
def MY (r:Option V)(a b:List Nat×List Nat):Option (List Nat×List Nat):=match r with|some r=>some (if r.flat then a else b)|none=>none
def Og (m:Nat):aG->List Nat
 |[]=>[]|p::r=>if p.2.names=some m then p.1::Og m r else Og m r
def iK (o:aU)(aA:aG):St->Option (List Nat×List Nat)
 | .mv d (.c _)=>some ([],[d])
 | .mv d (.t n)=>match aF n aA with
  |some (.t _)=>if n !=d then some ([],[d,n]) else none|_=>some (sV aA n,[d])
 | .as d (.c _)=>some ([],[d])
 | .as d (.t n)=>match owner aA (.t n) with
  |some m=>match aF m aA with
   |some y=>if y.isOwn&&n !=d&&m !=d then some ([],if n=m then[d,m] else[d,m,n]) else if y.isOwn then none else some (sV aA n,[d])|none=>none
  |none=>some (sV aA n,[d])
 | .q d _ xs=>some (fH aA xs,[d])| .ix d _ s i=>some (fH aA [s,i],[d])| .fa d _ _ s=>some (oA aA s,[d])
 | .sto _ (.t s) v=>if lJ aA [v] then(match aF s aA with
   |some (.bx _)=>some (oA aA v,[s])|some x=>x.names.map fun m=>(s::oA aA v,m::Og m aA)
   |none=>none) else none
 | .app d _ _ _ (.c _) y=>some (oA aA y,[d])| .app d _ _ _ (.t n) y=>(wG aA n).bind fun m=>if n !=d&&m !=d then some (oA aA y,if n=m then[d,m] else[d,m,n]) else none| .call d f xs=>if lJ aA xs then some (fH aA xs,d.toList) else MY ((eC aA xs).bind (o f)) (fH aA xs,d.toList) ([],d.toList++fH aA xs)| .callv d xs=>if lJ aA xs then some (fH aA xs,d.toList) else MY ((eC aA xs).bind (AX o)) (fH aA xs,d.toList) ([],d.toList++fH aA xs)
 | .ext d i n=>match aF n aA with
  |some (.t vs)=>(vs[i]?).bind fun y=>if n !=d then(if y.isOwn then some ([],[d,n]) else some ([n],[d])) else none|_=>none
 | .bld d _ _ xs=>if lJ aA xs then some (fH aA xs,[d]) else some ([],d::fH aA xs)| .bsl d _ _ xs=>if lJ aA xs then some (fH aA xs,[d]) else some ([],d::fH aA xs)| .box d s=>if lJ aA [s] then some (oA aA s,[d]) else none| .alo d _=>some ([],[d])| .mkf d _ _ xs=>if lJ aA xs then some (fH aA xs,[d]) else some ([],d::fH aA xs)| .slc d _ _ _ xs=>if lJ aA xs then some (fH aA xs,[d]) else some ([],d::fH aA xs)| .mks d _ _ _ n=>some (oA aA n,[d])| .s2b d _ s=>some (oA aA s,[d])| .callm (some d) _ mu (.t n) xs=>(wG aA n).bind fun m=>if mu.ret&&n !=d&&m !=d then some (fH aA xs,if n=m then[d,m] else[d,m,n]) else none| .mget d _ _ (.t n) k=>some (sV aA n++oA aA k,[d])| .mset _ (.t n) k v=>(Al aA n).map fun p=>(sV aA n++(oA aA k++oA aA v),p.1::Og p.1 aA)|_=>none
def OW (aA e:aG)(f:List Nat×List Nat):Bool:=
 f.2.all (fun n=>match(aF n aA).bind V.names with |some m=>f.1.contains m||f.2.contains m|none=>true)&&
 (f.2.all (fun n=>match(aF n e).bind V.names with |some m=>f.1.contains m||f.2.contains m|none=>true)&&
 aA.all (fun p=>match p.2.names with |some m=> !f.2.contains m||f.2.contains p.1|none=>true))
def Jl (o:aU):List St->aG->Option (aG×List (List Nat×List Nat))
 |[],aA=>some (aA,[])|s::r,aA=>(bS o aA s).bind fun e=>(iK o aA s).bind fun f=>if OW aA e f then(Jl o r e).bind fun p=>some (p.1,f::p.2) else none
def Vy (f g:List Nat×List Nat):Bool:=f.2.all (fun n=> !g.1.contains n&& !g.2.contains n)&&g.2.all (fun n=> !f.1.contains n)
def Ot (f:List Nat×List Nat):Nat->List (List Nat)->List (List Nat×List Nat)->Bool
 |i,a::as,g::gs=>(a.contains i||Vy f g)&&Ot f i as gs|_,_,_=>true
def MC:Nat->List (List Nat)->List (List Nat×List Nat)->Bool
 |i,_::as,f::fs=>Ot f i as fs&&MC (i+1) as fs|_,_,_=>true
def KX (o:aU)(ss:List St)(af:List (List Nat))(aA:aG):Option aG:=(Jl o ss aA).bind fun p=>if MC 0 af p.2 then some p.1 else none
def HA (o:aU)(aA:aG):gX->Option (List Nat×List Nat)
 | .s st=>iK o aA st
 | .gd c t d st=>(iH aA c).bind fun v=>match v with
  | .b u=>if u=t then(iK o aA st).map fun f=>(sV aA c++f.1,f.2) else some (sV aA c,d.toList)|_=>none
 | .pick d c a b=>(iH aA c).bind fun v=>match v with
  | .b u=>some (sV aA c++oA aA (if u=true then a else b),[d])|_=>none
def Ep (o:aU):List gX->aG->Option (aG×List (List Nat×List Nat))
 |[],aA=>some (aA,[])|s::r,aA=>(mB o aA s).bind fun e=>(HA o aA s).bind fun f=>if OW aA e f then(Ep o r e).bind fun p=>some (p.1,f::p.2) else none
def Fi (o:aU)(ss:List gX)(af:List (List Nat))(aA:aG):Option aG:=(Ep o ss aA).bind fun p=>if MC 0 af p.2 then some p.1 else none
def wJ (o:aU)(aA:aG):List (Nat×X)->aG->Option aG
 |[],acc=>some acc|p::r,acc=>(dJ o aA p.2).bind fun v=>if v.flat1 then wJ o aA r (put' p.1 v acc) else none
inductive C where
 |skip
 |seq (a b:C)
 |q (rs:List (Nat×X))
 |s (ss:List St) (ks:List Nat)
 |d (ss:List St) (af:List (List Nat)) (ks:List Nat)
 |g (ss:List gX) (ks:List Nat)
 |dg (ss:List gX) (af:List (List Nat)) (ks:List Nat)
 |cond (x:X) (a b:C)
 |blk (id:Nat) (c:C)
 |loop (kin:List Nat) (c:C)
 |exit (id:Nat) (ks:List Nat)
 |ret (ks:List Nat)
 deriving Inhabited
inductive Ex where
 |n
 |e (id:Nat)
 |r
 deriving DecidableEq,Inhabited
def dropE (ks:List Nat)(aA:aG):aG:=aA.filter fun p=> !ks.contains p.1&&(match p.2.names with |none=>true|some m=> !ks.contains m)
def nA (f:aG->Option (Ex×aG)):Nat->aG->Option (Ex×aG)
 |0,_=>none
 |n+1,aA=>(f aA).bind fun p=>match p.1 with
  | .n=>nA f n p.2|e=>some (e,p.2)
open Classical in
noncomputable def C8 (f:aG->Option (Ex×aG))(aA:aG):Option (Ex×aG):=
 if h:∃n,(nA f n aA).isSome=true then nA f (Classical.choose h) aA else none
noncomputable def bI (o:aU):C->aG->Option (Ex×aG)
 | .skip,aA=>some (.n,aA)
 | .seq a b,aA=>(bI o a aA).bind fun p=>match p.1 with
  | .n=>bI o b p.2|e=>some (e,p.2)
 | .q rs,aA=>(wJ o aA rs aA).bind fun e=>some (.n,e)| .s ss ks,aA=>(nM o ss aA).bind fun e=>some (.n,dropE ks e)| .d ss af ks,aA=>(KX o ss af aA).bind fun e=>some (.n,dropE ks e)| .g ss ks,aA=>(C2 o ss aA).bind fun e=>some (.n,dropE ks e)| .dg ss af ks,aA=>(Fi o ss af aA).bind fun e=>some (.n,dropE ks e)
 | .cond x a b,aA=>(dJ o aA x).bind fun v=>match v with
  | .b t=>if t then bI o a aA else bI o b aA|_=>none
 | .blk id c,aA=>(bI o c aA).bind fun p=>match p.1 with
  | .e j=>if j=id then some (.n,p.2) else some (.e j,p.2)|e=>some (e,p.2)
 | .loop kin c,aA=>C8 (fun e=>bI o c (keepE kin e)) aA| .exit id ks,aA=>some (.e id,keepE ks aA)| .ret ks,aA=>some (.r,keepE ks aA)
inductive RV where
 |tmp (t:Nat)
 |cell (t n:Nat) (ag:Bool)
 deriving Inhabited
def fZ (aA:aG):RV->Option (V×aG)
 | .tmp t=>(aF t aA).bind fun x=>match x with
  | .al m=>(aF m aA).bind fun y=>match y with
   | .al _| .pe .. | .pb .. | .t _| .ud=>none|y=>some (y,if y.isOwn then put m .ud aA else aA)
  | .pe .. =>none| .pb .. =>none| .t _=>none| .ud=>none|x=>some (x,if x.isOwn then put t .ud aA else aA)
 | .cell t n ag=>(iH aA t).bind fun x=>(aS (fun _ _=>none) (.ld n ag) [x]).bind fun y=>some (y,aA)
def Ak:List RV->aG->Option (List V)
 |[],_=>some []|r::rs,aA=>(fZ aA r).bind fun p=>(Ak rs p.2).bind fun vs=>some (p.1::vs)
def yA (rs:List RV)(aA:aG):Option V:=(Ak rs aA).map fun vs=>match vs with|[v]=>v|vs=> .t vs
structure aQ where
 np:Nat
 res:List RV
 body:C
 deriving Inhabited
def kR (i:Nat):List V->aG
 |[]=>[]|x::r=>(i,x)::kR (i+1) r
def V.arg:V->Bool
 | .t _=>false|_=>true
noncomputable def BN (o:aU)(fc:aQ)(args:List V):Option V:=
 if args.length=fc.np/\args.all V.arg=true then(bI o fc.body (kR 0 args)).bind fun p=>match p.1 with| .e _=>none|_=>yA fc.res p.2
 else none
abbrev xS(n:Nat):X:=.sl n
abbrev xN(n:Int):X:=.k (.i .i64 n)
abbrev xQ(n:Nat)(x:X):C:=.q [(n,x)]
abbrev xB(o:BinOp)(a b:X):X:=.op (.bin o) [a,b]
abbrev xL(n:Nat)(x:X):X:=.op (.ld n false) [x]
abbrev xM(n:Nat)(x:X):X:=.op (.ld n true) [x]
abbrev xF(i n:Nat)(x:X):X:=.op (.fa i n) [x]
abbrev xI(k:Nat)(a b:X):X:=.op (.ix k) [a,b]
abbrev xK(f:Nat)(l:List X):X:=.op (.call false f) l
abbrev kL(a b c:C):C:=.seq a (.seq b c)
abbrev j9(a:Nat)(b:X)(c:C):C:=.seq (xQ a b) c
abbrev Ek(a:Nat)(b c:C):C:=.cond (xS a) b c
abbrev Ud(a:Int):V:=.i .i64 a
abbrev jE(a:BinOp)(b:Nat)(c:X):X:=xB a (xS b) c
abbrev aL:V:=Ud 0
abbrev gI:V:=.b false
abbrev bN(a b:Nat):St:=.mv a (.t b)
abbrev tU(a:Nat)(b:X)(c:Nat)(d e:C):C:=j9 a b (Ek c d e)
abbrev xY(a:BinOp)(b:Nat)(c:Int):X:=jE a b (xN c)
abbrev Jb(a:Nat)(b:List Nat):C:=.ret (a::b)
abbrev iW(a:Nat)(b:X)(c:Nat)(d:C):C:=tU a b c d .skip
abbrev Uc:V:=.b true
abbrev C1(a:Nat)(b:V):St:=.as a (.c b)
abbrev dY(a:jU)(b:X)(c:List X):X:=.op a (b::c)
abbrev m7(a:C)(b:Nat)(c:X)(d:C):C:=kL a (xQ b c) d
abbrev bD:X:=xN 0
abbrev G7(a:Nat)(b:List Nat)(c:C):C:=.blk a (.loop b c)
abbrev cI:X:=xS 0
abbrev Qe(a b:Nat)(c:List bF):St:=.call (some a) b c
abbrev iV:X:=.k gI
abbrev wC(a:List St)(b:List Nat)(c:C):C:=.seq (.s a b) c
abbrev lW(a:Nat)(b:X)(c:Nat)(d:List Nat):C:=j9 a b (Jb c d)
abbrev eR(a b:Nat):St:=.as a (.t b)
abbrev xX(a:List (Nat × X))(b:C):C:=.seq (.q a) b
abbrev G6:jU:=.un .not
abbrev eV(a b c:Nat):St:=.sto a (.t b) (.t c)
abbrev Le(a:C)(b:Nat)(c d:C):C:=kL a (.blk b c) d
abbrev kU(a b:Nat):X:=xL 1 (xF a 1 (xS b))
abbrev bV:X:=xS 1
abbrev y7(a:BinOp)(b c:Nat)(d:X):X:=xB a (kU b c) d
abbrev Ja(a:Int):V:=.i .u64 a
abbrev Ub(a:X)(b:List X):X:=dY .len a b
abbrev Ej(a:Nat)(b:BinOp)(c:Nat)(d:Int):C:=xQ a (xY b c d)
abbrev oK(a b c d e:C):C:=kL a b (kL c d e)
abbrev nZ(a:Nat)(b:X)(c d:Nat)(e:X)(f:Nat)(g:List Nat):C:=iW a b c (lW d e f g)
abbrev C0(a b:Nat)(c:Int):C:=Ej a .add b c
abbrev bO:V:=.s []
abbrev gT(a b:X):X:=.ite a b iV
abbrev Ua(a:Nat)(b:X)(c:List X):X:=dY (.ext a) b c
abbrev Ei(a:Nat)(b:X):X:=jE .lss a b
abbrev iP(a:Nat)(b:Int):X:=xY .eql a b
abbrev gH(a b:X):X:=.ite a (.k Uc) b
abbrev Bf(a:Int):X:=.k (Ja a)
abbrev Be(a:Nat)(b:X)(c d:Nat)(e:List Nat):C:=tU a b c .skip (.exit d e)
abbrev dM:X:=xN 1
abbrev U9(a:Nat)(b:C):C:=Ek a b .skip
abbrev pB(a:Nat)(b:X)(c:List X):X:=dY (.call true a) b c
abbrev kK(a:List (Nat × X))(b:Nat)(c:List Nat):C:=xX a (Jb b c)
abbrev dH:X:=xS 3
abbrev rB(a:jU)(b:Nat)(c:List X):X:=dY a (.sl b) c
abbrev y6(a:Int):bF:=.c (Ud a)
abbrev Hs(a b:X):X:=xB .gtr a b
abbrev wB(a b c:X):X:=gH (gH a b) c
abbrev U8(a b c:Nat)(d:bF):St:=.ix a b (.t c) d
abbrev fB:X:=xS 2
abbrev Dk(a:Nat)(b:V)(c:List V):St:=.alo a (b::c)
abbrev cQ:V:=.l []
abbrev rV(a:C)(b:Nat)(c:X)(d:Nat)(e:C):C:=m7 a b c (U9 d e)
abbrev Hr(a:Nat)(b:X)(c:Nat)(d:List Nat)(e:C):C:=j9 a b (G7 c d e)
abbrev iU(a b c:Nat):St:=.fa a b 1 (.t c)
abbrev Ny(a:jU)(b:Nat)(c d:List X):X:=dY a (xK b c) d
abbrev y5(a:Nat):St:=C1 a aL
abbrev Qd(a:Nat)(b c:C):C:=.cond (.sl a) b c
abbrev CZ(a b:Nat)(c:X)(d e:Nat)(f:List Nat):C:=Be a (Ei b c) d e f
abbrev j8(a b c d:Nat):St:=U8 a b c (.t d)
abbrev Nx(a b:Nat)(c d:List X):X:=Ua a (xK b c) d
abbrev nL(a:St)(b:List St)(c:List Nat):C:=.s (a::b) c
abbrev Qc(a b:Nat)(c:List St)(d:List Nat):C:=nL (.box a (.t b)) c d
abbrev fP(a:Nat)(b:X)(c d:Nat)(e:Int)(f:Nat)(g:List Nat):C:=nZ a b c d (xN e) f g
abbrev fK(a b:Nat):St:=.ext a 1 b
abbrev fJ(a b:Nat):St:=.ext a 0 b
abbrev tT(a b:Nat)(c:List V):St:=C1 a (.ow b c)
abbrev tS(a:BinOp)(b:Nat)(c:Int):X:=jE a b (Bf c)
abbrev Aj(a:jU)(b:List X):X:=dY a cI b
abbrev mO(a b:Nat)(c:X):X:=y7 .eql a b c
abbrev Eh(a:List X):X:=Aj .idx a
abbrev Nw:bF:=.c aL
abbrev U7(a b:Nat):X:=Ei a (xS b)
abbrev k8(a b:Nat)(c:Int)(d:Nat)(e f:C):C:=tU a (iP b c) d e f
abbrev Bd(a b:Nat)(c:X)(d:List X)(e f:Nat)(g:List Nat):C:=CZ a b (Ub c d) e f g
abbrev mA(a b:X):X:=xB .eql a b
abbrev iO(a b c d:C)(e:Nat)(f:List Nat):C:=oK a b c d (Jb e f)
abbrev rA(a b:Nat):X:=xM a (xS b)
abbrev sS(a:Nat):X:=kU a 1
abbrev Ai(a:C)(b:Nat)(c:C)(d e:Nat):C:=Le a b c (C0 d e 1)
abbrev Bc(a:X)(b:Int):X:=Hs a (xN b)
abbrev G5(a:Int):X:=.k (.i .u8 a)
abbrev jD:V:=Ja 0
abbrev rU(a:Int):X:=.k (Ud a)
abbrev j7(a b c:Nat)(d:C):C:=j9 a (U7 b c) d
abbrev tR(a b:X):X:=xB .lss a b
abbrev jX(a b:C)(c:Nat)(d:List Nat):C:=kL a b (Jb c d)
abbrev wA(a:List St)(b:List Nat)(c:Nat)(d:List Nat):C:=wC a b (Jb c d)
abbrev qZ(a b:Nat)(c:X):X:=y7 .lss a b c
abbrev l9:X:=xS 8
abbrev jC(a b:Nat)(c:List Nat)(d:Nat)(e:C)(f g:Nat):C:=Ai (Ek a .skip (.exit b c)) d e f g
abbrev k7(a:Nat)(b:List bF):St:=.q a .len b
abbrev jB(a:Nat)(b:X)(c:Nat)(d:List (Nat × X))(e:Nat)(f:List Nat):C:=iW a b c (kK d e f)
abbrev Hq(a:Nat):St:=C1 a gI
abbrev jW(a b c:C)(d:Nat)(e:X)(f:Nat)(g:List Nat):C:=kL a b (m7 c d e (Jb f g))
abbrev G4(a:Nat)(b:C):C:=Qd a b .skip
abbrev rT(a b c:X):X:=gT (gT a b) c
abbrev jO(a:C)(b:Nat)(c:X)(d e:Nat)(f:X)(g:Nat)(h:List Nat):C:=rV a b c d (lW e f g h)
abbrev z8:jU:=.cnv .u64
abbrev Eg(a b:Nat)(c:List Nat)(d:C):C:=Hr a bD b c d
abbrev Hp:X:=xN 1000000000000
abbrev mN(a:Nat):St:=.mv a Nw
abbrev Ah:jU:=.bin .add
abbrev uZ(a b:X):X:=xB .add a b
abbrev J9(a:BinOp)(b:X)(c:List X):X:=dY (.bin a) b c
abbrev lI(a b:Nat):St:=eV 2 a b
abbrev m6:X:=xS 9
abbrev m5:X:=xS 5
abbrev qL:X:=.k aL
abbrev qK:X:=.k Uc
abbrev lB(a:List St)(b:List Nat)(c:Nat)(d:List Nat)(e:C):C:=wC a b (G7 c d e)
abbrev CY(a b:Nat)(c:X)(d:Nat):X:=xM a (xI b c (xS d))
abbrev nY:X:=xS 6
abbrev lV(a b:Nat)(c:List bF)(d:List St)(e:List Nat):C:=nL (.q a (.ld b true) c) d e
abbrev oJ(a b:Nat)(c:List X):C:=xQ a (xK b c)
abbrev CX(a:Nat)(b:List bF):St:=.callv (some a) b
abbrev nX(a:Nat)(b:V)(c:List V)(d:List (Nat × Nat))(e:List bF):St:=.bld a (b::c) d e
abbrev v8:X:=xS 10
abbrev pQ(a:Nat)(b:Int):X:=xY .lss a b
abbrev mZ(a b c:Nat)(d:List St)(e:List Nat):C:=nL (iU a b c) d e
abbrev pP(a b:Nat)(c:X):X:=y7 .gtr a b c
abbrev pA(a:X)(b:List X)(c:Int):X:=Bc (Ub a b) c
abbrev Nv(a b c:Nat)(d:List X):X:=pB a (kU b c) d
abbrev Dj(a:BinOp)(b:Nat):X:=tS a b 4294967296
abbrev pO:bF:=.t 3
abbrev Di:jU:=.cnv .i64
abbrev oI(a b:Nat)(c:X)(d e:List X):X:=Ua a (pB b c d) e
abbrev bX(a b:Nat):St:=.q a (.ld 1 false) [.t b]
abbrev uY:X:=.k bO
abbrev Ho:jU:=.callv false
abbrev U6(a b c:X):X:=gH a (Hs b c)
abbrev Ld(a:X):X:=xL 1 a
abbrev sR:St:=y5 4
abbrev uX(a b:X):X:=xB .sub a b
abbrev Dh(a:Nat)(b:X):X:=jE .add a b
abbrev gS(a b:Nat):St:=iU a b 3
abbrev Hn:X:=xN (-1)
abbrev tQ:bF:=.t 7
abbrev rS(a b c d e f:Nat):St:=.app a b c d (.t e) (.t f)
abbrev v7(a b:X):X:=xB .neq a b
abbrev uW(a:Nat):X:=kU a 3
abbrev iT(a:Nat):St:=bN a 1
abbrev Qb(a:Nat):C:=xQ a iV
abbrev uV:X:=Bf 0
abbrev G3(a b:C)(c d:Nat):C:=Ai a 1 b c d
abbrev uU:C:=Qb 2
abbrev tP(a:C)(b:Nat)(c:X)(d:Nat):C:=m7 a b c (Jb d [])
abbrev kJ(a:C)(b:X):C:=tP a 2 b 2
abbrev v6:X:=xS 7
abbrev Qa(a:Nat)(b:Bool)(c:Nat)(d:St):gX:=.gd a b (some c) d
abbrev qJ:X:=Aj .slen []
abbrev Ag:bF:=.t 10
abbrev oH:X:=Ub cI []
abbrev xW:St:=y5 2
abbrev xV:St:=y5 5
abbrev tO(a b:Nat)(c:X)(d:Nat):X:=xL 1 (xF a 1 (xI b c (xS d)))
abbrev mM(a b c:Nat):X:=tO a b cI c
abbrev Af(a:Nat)(b:X)(c:Nat)(d:C):C:=j9 a b (.blk c d)
abbrev sQ(a:Nat)(b:X)(c:Nat)(d:X)(e:C):C:=m7 (xQ a b) c d e
abbrev Ae(a:BinOp)(b:Nat)(c:List X):X:=rB (.bin a) b c
abbrev xU(a b c d:X):X:=gH (wB a b c) d
abbrev Bb:bF:=.t 11
abbrev B9:bF:=.t 22
abbrev y4:St:=Hq 5
abbrev yZ:bF:=y6 1
abbrev uT(a b c d:Nat)(e f:X):X:=xL a (xF b c (xI d e f))
abbrev z7:X:=xN 3
abbrev z6:X:=sS 1
abbrev iE(a:Nat)(b:List Nat)(c:C):C:=Eg a 0 b c
abbrev Lc(a:X)(b:List X)(c:Int):X:=U6 a (Eh b) (G5 c)
abbrev Ef(a b:Nat)(c:bF)(d:List bF):St:=Qe a b (c::d)
abbrev nK(a b c:Nat)(d:List bF):St:=Ef a b (.t c) d
abbrev zZ(a:Nat)(b:X):X:=jE .mul a b
abbrev Q9(a:List X)(b:Int):X:=tR (Eh a) (G5 b)
abbrev dV(a:Nat)(b:X)(c:List (Nat × X)):C:=.q ((a,b)::c)
abbrev G2(a:C)(b:Nat)(c:C):C:=.seq a (.blk b c)
abbrev mY(a:Nat)(b:X)(c:List X):X:=xK a (b::c)
abbrev Lb(a:Nat):St:=.box a (.t 0)
abbrev rR(a b:Nat)(c:List V)(d:List St)(e:List Nat):C:=nL (tT a b c) d e
abbrev Ad:X:=sS 0
abbrev Ac:X:=rU 1
abbrev qY(a:Nat):X:=xY .neq a 0
abbrev rQ(a b c:Nat)(d e:List X)(f:List (Nat × X)):C:=dV a (Nx b c d e) f
abbrev sP(a b:Nat)(c:List bF):St:=.bsl a b 1 c
abbrev oZ(a:Nat)(b:List V):St:=Dk a bO b
abbrev Dg:bF:=.t 12
abbrev B8:X:=xN 4
abbrev vZ(a:List (Nat × X))(b:Nat)(c:C):C:=xX a (G4 b c)
abbrev B7:St:=y5 6
abbrev B6:bF:=y6 4
abbrev B5:bF:=y6 2
abbrev Q8(a:Nat)(b:Int):X:=tS .shr a b
abbrev J8:X:=xN 1000
abbrev Ab(a:Nat)(b:Int):St:=C1 a (Ud b)
abbrev nJ(a:C)(b:X):C:=tP a 4 b 4
abbrev CW:X:=xN 2
abbrev mX(a:Nat):St:=bN a 0
abbrev Aa(a b:Nat)(c:X):X:=y7 .neq a b c
abbrev B0(a:Nat)(b:X)(c:List X):X:=dY (.call false a) b c
abbrev pN(a:Nat)(b:X)(c:Nat)(d:List St)(e:List Nat)(f:Nat)(g:List Nat):C:=iW a b c (wA d e f g)
abbrev Nu:X:=xS 12
abbrev BZ(a:Nat)(b:Int):X:=xY .gtr a b
abbrev Df(a:Nat):X:=kU a 2
abbrev BY(a:C)(b c:X):C:=kJ a (gT b c)
abbrev De:X:=xN 5
abbrev Dd:X:=xN 6
abbrev G1:bF:=.t 16
abbrev G0:bF:=.t 34
abbrev BX(a b:Nat)(c:X):X:=y7 .leq a b c
abbrev Dc:St:=Lb 3
abbrev Ee:X:=xS 4
abbrev Hm:X:=sS 19
abbrev Ed:X:=sS 2
abbrev Ec:X:=sS 3
abbrev Eb(a b c:Nat)(d e:List X):X:=dY (.ld 1 false) (rB (.fa a b) c d) e
abbrev Ea:X:=uW 1
abbrev Hl:bF:=.t 27
abbrev E9:bF:=.t 8
abbrev Nt:jU:=.un .neg
abbrev Db(a:Nat)(b:X):X:=jE .eql a b
abbrev tN(a:Nat)(b:List X):X:=mY a cI b
abbrev qI(a:Nat):St:=bN a 2
abbrev vY(a:Nat)(b:C):C:=j9 a bD b
abbrev qH(a:Nat)(b:X)(c:Nat)(d:X)(e:List Nat):C:=nZ a b c 2 d 2 e
abbrev CV(a:Nat)(b:V)(c:List V):St:=Dk a aL (b::c)
abbrev fI(a:Nat)(b:List V):St:=CV a aL b
abbrev J7:X:=xS 11
abbrev GZ:St:=y5 7
abbrev GY:St:=Hq 2
abbrev J6:X:=xM 22 bV
abbrev J5:X:=xM 22 dH
abbrev GX:St:=Lb 2
abbrev GW:bF:=.t 6
abbrev Xq:X:=xN (-1000000000000)
abbrev Ns(a:Nat):St:=.box a (.t 1)
abbrev vX:St:=Ns 3
abbrev J4:bF:=.t 13
abbrev J3:bF:=.t 26
abbrev mL(a:Nat)(b:List V)(c:List (Nat × Nat))(d:List bF):St:=nX a aL b c d
abbrev Q7:X:=.op .mv []
abbrev GV(a b:X):X:=xB .leq a b
abbrev Xp:X:=Bf 1099511628211
abbrev xT(a b c:Nat):X:=CY a b cI c
abbrev Hk:X:=uW 0
abbrev Hj(a:Nat)(b:List St):C:=Qc a 0 b []
abbrev oY(a:List St):C:=Hj 2 a
abbrev Hi:X:=Df 0
abbrev U5:jU:=.callv true
abbrev Hh:St:=Hq 3
abbrev Hg:St:=Lb 1
abbrev U4(a:X):X:=Ld (xI 1 bV a)
abbrev E8:X:=U4 bD
abbrev J2:X:=U4 dM
abbrev La:X:=xN 14
abbrev U3:X:=xN 1000000
abbrev E7(a:Nat)(b:Int):X:=xY .sub a b
abbrev qG(a:X):X:=dY G6 a []
abbrev Hf:X:=qG l9
abbrev L9:X:=xM 22 fB
abbrev L8(a:X):X:=xM 4 a
abbrev J1:X:=L8 fB
abbrev L7:X:=L8 bV
abbrev rP(a:List St):C:=Hj 1 a
abbrev L6:bF:=.t 28
abbrev L5:bF:=.t 17
abbrev L4:bF:=.t 24
abbrev L3:bF:=.t 36
abbrev L0:bF:=.t 33
abbrev LZ:bF:=.t 46
abbrev LY:bF:=y6 31
abbrev rO(a b:Nat):St:=iU a 1 b
abbrev eQ(a b:Nat)(c:St)(d:List St)(e:List Nat):C:=nL (bN a b) (c::d) e
abbrev vW(a b c d:Nat)(e:List St)(f:List Nat):C:=eQ a b (bN c d) e f
abbrev He(a b:X):X:=xB .geq a b
abbrev GU(a:List UInt8):X:=.k (.s a)
abbrev Hd(a b:X):X:=xB .mul a b
abbrev CU(a b c d e f g:C):C:=kL a b (oK c d e f g)
abbrev kI(a b:Nat)(c:bF)(d:List bF):St:=.q a (.ld b true) (c::d)
abbrev lT(a b c:Nat)(d:List bF):St:=kI a b (.t c) d
abbrev A9(a b:Nat):X:=qZ a b dM
abbrev Q6(a:Nat):C:=xQ a bD
abbrev Hc:C:=Q6 2
abbrev oX(a:Nat)(b c:List X):X:=Nx 1 a b c
abbrev E6(a b:Nat)(c:St):gX:=Qa a true b c
abbrev zY(a:BinOp)(b c d:Nat)(e f g:List X):X:=J9 a (Eb b c d e f) g
abbrev LX:X:=sS 8
abbrev vV(a:Nat):St:=lI 6 a
abbrev LW:C:=Qb 4
abbrev LV(a:Nat):jU:=.ld a true
abbrev aU3:X:=xN (-9223372036854775808)
abbrev aU2:X:=Bf 14695981039346656037
abbrev LU:St:=Hq 7
abbrev iZ(a b:Nat)(c:X):C:=xQ a (Dh b c)
abbrev jM(a:Nat)(b:X):X:=mY a b []
abbrev Q5:bF:=.t 100
abbrev aU1:X:=xN 9223372036854775807
abbrev Hb(a:Nat)(b:X):X:=jE .sub a b
abbrev Ha(a:BinOp)(b:Int):X:=xY a 0 b
abbrev J0(a:Int):X:=Ha .geq a
abbrev Nr(a:Int):X:=Ha .leq a
abbrev xR(a:Nat):St:=eR 8 a
abbrev aU0:X:=Bf 9223372036854775808
abbrev H9(a:X)(b:Nat):X:=uZ a (xS b)
abbrev xP(a:Nat):St:=lI 4 a
abbrev Q4(a:Nat):St:=C1 a Uc
abbrev JZ:St:=Q4 5
abbrev Da(a:Nat):St:=eR 10 a
abbrev sO(a:X):X:=Ub a []
abbrev m4:X:=sO bV
abbrev H8(a:Nat):X:=rA 2 a
abbrev H7:X:=H8 6
abbrev CT(a:Nat)(b:X)(c:List X):X:=Ny G6 a (b::c) []
abbrev iS(a:Nat)(b:X):X:=CT a b []
abbrev Q3:X:=xN 10
abbrev Q2:X:=xN 11
abbrev Q1:X:=.sl 2
abbrev E5(a b:Nat)(c:Int)(d:Nat)(e:C):C:=k8 a b c d .skip e
abbrev Nq:X:=sS 5
abbrev Q0:X:=Ld bV
abbrev Np:X:=Df 2
abbrev E4(a b:Nat)(c:List bF):St:=.slc a b true false c
abbrev QZ:X:=qG Nu
abbrev JY(a:X):C:=xQ 0 a
abbrev JX:C:=JY Q7
abbrev GS(a:List Nat)(b:C):C:=G7 0 a b
abbrev Nn:St:=Hq 4
abbrev QY:St:=mN 12
abbrev sN(a:Nat)(b:List X):X:=Nv 261 1 a b
abbrev E3(a:Nat):X:=Q8 a 32
abbrev LS(a:Nat):X:=tS .and a 4294967295
abbrev tM(a:Nat)(b:X)(c:Nat)(d:List Nat):C:=qH a b c iV d
abbrev U2:jU:=.slcs true true
abbrev QX:bF:=.t 70
abbrev Nl:bF:=.t 9
abbrev Nk:bF:=.t 4
abbrev QW:bF:=.t 23
abbrev QV:bF:=.t 35
abbrev QU:bF:=.t 58
abbrev QT:bF:=.t 45
abbrev QS:bF:=.t 44
abbrev zX(a:Nat):St:=eR 6 a
abbrev zW(a:Nat):St:=eR 5 a
abbrev zV(a:Nat):St:=eR 7 a
abbrev xO(a b:Nat):St:=eV 4 a b
abbrev Nj:bF:=y6 5
abbrev JW(a b c:X):X:=gT a (mA b c)
abbrev tL(a b:C):C:=G3 a b 3 3
abbrev fO(a b:UInt8)(c:List UInt8):bF:=.c (.s (a::b::c))
abbrev JV(a:Nat)(b:X):X:=jE .neq a b
abbrev D9(a b:Nat):St:=eV 19 a b
abbrev CS(a:List (Nat × X))(b:List Nat)(c:C):C:=xX a (GS b c)
abbrev U1:bF:=.t 102
abbrev A8(a:Nat):St:=eR 3 a
abbrev JU(a b c:Nat):X:=mO a b (uW c)
abbrev l8(a b c:Nat)(d:bF)(e:List bF):St:=nK a b c (d::e)
abbrev l7(a b c d:Nat)(e:List bF):St:=l8 a b c (.t d) e
abbrev xJ(a:X)(b:Nat):X:=Ld (xI 1 a (xS b))
abbrev CR(a:List X)(b:Int)(c:List X)(d:Int):X:=Lc (Q9 a b) c d
abbrev QR:X:=qY 6
abbrev QQ:X:=Df 3
abbrev gK(a:St)(b:List St)(c:C):C:=wC (a::b) [] c
abbrev Xo:X:=Nr 73048
abbrev U0:X:=xS 16
abbrev UZ:X:=xN 64
abbrev GR(a:Nat):St:=bN a 23
abbrev D8(a b:Nat)(c:Int)(d:Nat)(e:C):C:=iW a (iP b c) d e
abbrev BW(a b c d:Nat)(e:List St)(f:List Nat):C:=nL (j8 a b c d) e f
abbrev E2(a b:Nat):X:=mO a b bD
abbrev A7(a b:Nat)(c:X)(d:List X)(e:Nat)(f:List Nat):C:=Bd a b c d e 0 f
abbrev rN(a b:Nat)(c:X)(d:List X)(e:Nat)(f:List Nat)(g:C)(h i:Nat):C:=G3 (A7 a b c d e f) g h i
abbrev UY:X:=sS 18
abbrev UX:X:=sS 17
abbrev UW:X:=G5 95
abbrev UV:X:=qY 12
abbrev UU:X:=qY 10
abbrev H6(a:C):C:=nJ a Hn
abbrev UT:X:=qG v8
abbrev US:X:=sO (.sl 0)
end Go.VM
namespace Go.VM
def Eu:Value->Option V
 | .bool x=>some (.b x)| .int k n=>some (.i k n)| .string s=>some (.s s.data.toList)| .slice none 0 0=>some (.l [])| .nilFunc=>some .nf| .pointer none=>some .np| .func fn ⟨[]⟩ ⟨[]⟩=>some (.f fn [] [])|_=>none
def Dp:List Value->Option (List V)
 |[]=>some []|v::r=>(Eu v).bind fun x=>(Dp r).bind fun xs=>some (x::xs)
def pR:Value->Option V
 | .agg cs=>(Dp cs.toList).map .a|v=>Eu v
section
variable (P:Program)
def eJ (t:TypeId):Bool:=match P.underlying t with|some (.struct _)|some (.array _ _)=>true|_=>false
def CG (t:TypeId):Option Nat:=match P.underlying t with|some (.slice e)=>some e|_=>none
def AS (t:TypeId):Option Nat:=match P.underlying t with|some (.slice e)=>(P.info? e).map (·.size)|_=>none
def KV (t:TypeId):Option Nat:=match P.underlying t with|some (.slice e)=>(P.info? e).map (·.bytes)|_=>none
def Fk (t:TypeId)(v:Value):Option V:=match v with| .slice none 0 0=>(CG P t).map fun e=> .ow e []| .map none=>some .um|v=>pR v
def m9 [cB](t:TypeId):Operand->Option bF
 | .tmp n=>some (.t n)| .const v=>(Fk P t v).map .c| .func f=>some (.c (.f (.func f) [] []))| .global _=>none
def cS [cB]:Operand->Option bF
 | .tmp n=>some (.t n)| .const v=>(pR v).map .c| .func f=>some (.c (.f (.func f) [] []))| .global g=>(yH g).map .c
def srcs [cB]:List Operand->Option (List bF)
 |[]=>some []|x::r=>(cS x).bind fun s=>(srcs r).bind fun ss=>some (s::ss)
def ID (g:TypeId->Option (List Nat))(off:Nat):List Field->Option (List Nat)
 |[]=>some []|f::r=>if f.name≠ "_"/\f.offset=off then(g f.type).bind fun ks=>if P.cellsOf f.type=ks.length then(ID g (off+ks.length) r).map fun l=>ks++l else none else none
def sX:Nat->TypeId->Option (List Nat)
 |0,_=>none
 |d+1,t=>match P.underlying t with
  |some .bool=>some [0]|some (.int _)=>some [1]|some .string=>some [2]|some (.struct fs)=>if P.stoodInHeld t then none else ID P (sX d) 0 fs.toList|_=>none
def Vq:Nat->TypeId->Bool
 |0,_=>false
 |d+1,t=>match P.underlying t with
  |some .bool|some (.int _)|some .string=>true|some (.struct fs)=>fs.toList.all fun f=>Vq d f.type|some (.tuple ts)=>ts.toList.all fun t=>Vq d t|_=>false
def sK (t:TypeId):Option (List V):=(P.info? t).bind fun i=>i.zero.bind fun z=>Dp z.cells.toList
def VQ (fs:Array Field):Option (List (Nat×Nat)):=fs.toList.mapM fun f=>(P.info? f.type).map fun i=>(f.offset,i.size)
def Jr (qs:List (Nat×Nat)):List (Nat×Operand)->Option (List (Nat×Nat))
 |[]=>some []|p::r=>(qs[p.1]?).bind fun q=>(Jr qs r).bind fun l=>some (q::l)
def wI:Op->Option (jU×List Operand)
 | .move x| .assign x=>some (.mv,[x])
 | .binOp op t x y _=>match op,P.underlying t with
  | .eql,some (.struct _)=>(sX P 12 t).map fun ks=>(.eqa false ks,[x,y])| .neq,some (.struct _)=>(sX P 12 t).map fun ks=>(.eqa true ks,[x,y])|_,some .bool=>some (.binb op,[x,y])|_,some (.int _)|_,some .string=>some (.bin op,[x,y])|_,_=>none
 | .unOp op _ x=>some (.un op,[x])
 | .convert s d x=>match P.underlying s,P.underlying d with
  |some (.int _),some (.int k)=>some (.cnv k,[x])
  |some (.slice e),some .string=>match P.underlying e with
   |some (.int .u8)=>some (.b2s,[x])|_=>none
  |_,_=>none
 | .fieldAddr t x i=>match P.underlying t with
  |some (.struct fs)=>(fs[i]?).bind fun f=>if 0<P.cellsOf f.type then some (.fa f.offset (P.cellsOf f.type),[x]) else none|_=>none
 | .field t x i=>match P.underlying t with
  |some (.struct fs)=>(fs[i]?).bind fun f=>if(P.underlying f.type).isSome&&(eJ P f.type||P.cellsOf f.type==1) then some (.fld f.offset (P.cellsOf f.type) (eJ P f.type),[x]) else none|_=>none
 | .indexAddr t x i=>match P.underlying t with
  |some (.slice e)=>if(P.underlying e).isSome then some (.ix (P.cellsOf e),[x,i]) else none|some (.array n e)=>if(P.underlying e).isSome then some (.pix n (P.cellsOf e),[x,i]) else none|_=>none
 | .index t x i=>match P.underlying t with
  |some .string=>some (.idx,[x,i])|some (.array n e)=>if(P.underlying e).isSome&&(eJ P e||P.cellsOf e==1) then some (.aix n (P.cellsOf e) (eJ P e),[x,i]) else none|_=>none
 | .load t a=>if(P.underlying t).isSome&&(eJ P t||P.cellsOf t==1) then some (.ld (P.cellsOf t) (eJ P t),[a]) else none
 | .slice t x lo hi none=>match P.underlying t with
  |some .string=>some (.slcs lo.isSome hi.isSome,x::(lo.toList++hi.toList))|some (.slice e)=>if !(P.underlying e).isSome then none else some (.slc (P.cellsOf (P.elem t)) lo.isSome hi.isSome,x::(lo.toList++hi.toList))|_=>none
 | .extract t i=>some (.ext i,[t])
 | .build t ps=>match P.underlying t with
  |some (.struct fs)=>(sK P t).bind fun z=>(VQ P fs).bind fun qs=>(Jr qs ps.toList).bind fun pl=>some (.bld z pl,ps.toList.map (·.2))|some (.array _ e)=>(sK P t).bind fun z=>(P.info? e).bind fun ie=>some (.bld z (ps.toList.map fun p=>(p.1*ie.size,ie.size)),ps.toList.map (·.2))|_=>none
 | .buildSlice t n ps=>match AS P t with
  |some k=>if n*k<=16777216/\0<k/\ps.toList.map (·.1)=List.range n/\(sK P (P.elem t)).isSome then some (.bsl k,ps.toList.map (·.2)) else none|none=>none
 | .call {callee:= .value (.func f),args,..}=>some (.call false f,args.toList)| .call {callee:= .value x,args,..}=>some (.callv false,x::args.toList)
 | .call {callee:= .builtin .len,args,argTypes}=>match args.toList,(argTypes[0]?).bind P.underlying with
  |[x],some .string=>some (.slen,[x])|[x],some (.slice _)=>some (.len,[x])|_,_=>none
 | .call {callee:= .builtin .max,args,..}=>some (.mx,args.toList)| .call {callee:= .builtin .min,args,..}=>some (.mn,args.toList)|_=>none
structure QI where
 g:Option (Nat×Bool)
 srcs:List (Option Nat)
 kind:Nat
 x:X
 deriving Inhabited
def pI (defs:List (Tmp×Nat))(t:Tmp):Option Nat:=match defs with|[]=>none|p::r=>if p.1=t then some p.2 else pI r t
def iG [cB](defs:List (Tmp×Nat))(is:List QI):Operand->Option (Option Nat×X)
 | .tmp t=>match pI defs t with
  |some j=>(is[j]?).map fun q=>(some j,q.x)|none=>some (none,.sl t)
 | .const v=>(pR v).map fun c=>(none,.k c)| .func f=>some (none,.k (.f (.func f) [] []))| .global g=>(yH g).map fun c=>(none,.k c)
def IL [cB](defs:List (Tmp×Nat))(is:List QI):List Operand->Option (List (Option Nat×X))
 |[]=>some []|x::r=>(iG defs is x).bind fun y=>(IL defs is r).bind fun ys=>some (y::ys)
def DA (draw:Bool):jU->Option jU
 | .call _ f=>some (.call draw f)| .callv _=>some (.callv draw)| .bsl k=>if draw then none else some (.bsl k)|p=>some p
def Gg [cB](draw:Bool)(defs:List (Tmp×Nat))(is:List QI)(o:Oper):Option QI:=match o.op with
 | .pick c a b=>(iG defs is c).bind fun c=>(iG defs is a).bind fun a=>(iG defs is b).bind fun b=>
  some ⟨o.guard,[c.1,a.1,b.1],1,.ite c.2 a.2 b.2⟩
 | .move x| .assign x=>(iG defs is x).bind fun y=>some ⟨o.guard,[y.1],2,y.2⟩|op=>(wI P op).bind fun(p,xs)=>(DA draw p).bind fun p=>(IL defs is xs).bind fun ys=>some ⟨o.guard,ys.map (·.1),0,.op p (ys.map (·.2))⟩
def Ri (aJ:List Oper)(defs:List (Tmp×Nat)):Option (Nat×Bool)->Bool
 |none=>true
 |some (g,_)=>match(aJ[g]?).bind (·.dst) with
  |some d=>pI defs d==some g|none=>false
def TW (is:List QI):Nat->Option (Nat×Bool)->Option (Nat×Bool)->Bool
 |0,_,gj=>gj==none
 |n+1,gi,gj=>gj==none||gj==gi||(match gi with
  |none=>false
  |some (c,_)=>match is[c]? with
   |some C=>TW is n C.g gj
   |none=>false)
def OJ (is:List QI)(g:Option (Nat×Bool))(s:Option Nat):Bool:=match s with
 |none=>true
 |some j=>match is[j]? with
  |some J=>TW is 100 g J.g|none=>false
def Ut (is:List QI)(g:Option (Nat×Bool))(c:Option Nat)(b:Bool)(s:Option Nat):Bool:=OJ is g s||(match c,s with
 |some ci,some j=>match is[j]? with
  |some J=>J.g==some (ci,b)|none=>false
 |_,_=>false)
def Lm (is:List QI)(q:QI):Bool:=if q.kind=1 then(match q.srcs with
  |[c,a,b]=>OJ is q.g c&&Ut is q.g c true a&&Ut is q.g c false b
  |_=>false)
 else q.srcs.all (OJ is q.g)
def tX [cB](draw:Bool)(aJ:List Oper):List Oper->List (Tmp×Nat)->List QI->Option (List (Tmp×Nat)×List QI)
 |[],defs,is=>some (defs,is)
 |o::r,defs,is=>match o.dst with
  |none=>none|some d=>if Ri aJ defs o.guard then(Gg P draw defs is o).bind fun q=>if Lm is q then tX draw aJ r ((d,is.length)::defs) (is++[q]) else none else none
def bU0 (is:List QI)(i k:Nat):Bool:=match is[i]?,is[k]? with
 |some I,some K=>
  if K.kind=1 then
   match K.srcs with
   |[c,a,b]=>(c==some i&&K.g==I.g)||(match c with
    |some j=>((a==some i&&I.g==some (j,true))||(b==some i&&I.g==some (j,false)))&&(match is[j]? with
     |some J=>J.g==K.g
     |none=>false)
    |none=>false)
   |_=>false
  else K.srcs.contains (some i)&&K.g==I.g
 |_,_=>false
def Vz (is:List QI)(roots:List Nat):Bool:=
 (List.range is.length).all fun i=>roots.contains i||(List.range is.length).any fun k=>decide (i<k)&&bU0 is i k
def IE (defs:List (Tmp×Nat))(is:List QI):List Nat->Option (List (Nat×X)×List Nat)
 |[]=>some ([],[])
 |d::r=>(IE defs is r).bind fun p=>match pI defs d with
  |none=>some p|some j=>(is[j]?).bind fun q=>if q.g.isNone then some ((d,q.x)::p.1,j::p.2) else none
def JQ (keep:List Nat)(aJ:List Oper):List Nat:=(aJ.filterMap fun o=>o.dst.bind fun d=>if keep.contains d then some d else none).eraseDups
def Yh (aJ:List Oper):Bool:=Region.noSelect aJ.toArray&&Region.lexB .any aJ.toArray
def Yc [cB](nt:Nat)(keep:List Nat)(aJ:List Oper)(draw:Bool):Option (List (Nat×X)):=
 (tX P draw aJ aJ [] []).bind fun(defs,is)=>(IE defs is (JQ keep aJ)).bind fun(rs,js)=>
  if Vz is js&&(!draw||Yh aJ)&&aJ.all (fun o=>match o.dst with |some d=>decide (d<nt)|none=>true) then some rs else none
mutual
def xZ:X->List Nat
 | .sl n=>[n]| .k _=>[]| .ite c a b=>xZ c++xZ a++xZ b| .op _ xs=>Uu xs
def Uu:List X->List Nat
 |[]=>[]|x::xs=>xZ x++Uu xs
end
def eD (o:Oper):List Nat:=(o.after.toList.filter fun e=>Region.binds .any e).map (·.on)
def RA (aJ:List Oper)(is:List QI):Bool:=
 decide (aJ.filterMap (·.dst)).Nodup&&(List.range aJ.length).all fun i=>match aJ[i]?,is[i]? with
  |some o,some q=>(eD o).all (fun j=>decide (j<i))&&q.srcs.all (fun s=>match s with |some j=>(eD o).contains j|none=>true)&&(match o.guard with |some (g,_)=>(eD o).contains g|none=>true)&&
   (xZ q.x).all fun t=>(List.range aJ.length).all fun k=>match aJ[k]? with
    |some o'=>o'.dst !=some t||(eD o').contains i
    |none=>true
  |_,_=>false
def eX5 (aJ:List Oper):Bool:=aJ.all fun o=>match o.op with| .call {callee:= .value _,..}=>Vq P 12 o.type|_=>true
def Yd [cB](nt:Nat)(keep:List Nat)(aJ:List Oper):Option (List (Nat×X)):=
 (tX P false aJ aJ [] []).bind fun(defs,is)=>(IE defs is (JQ keep aJ)).bind fun(rs,js)=>
  if Vz is js&&RA aJ is&&aJ.all (fun o=>match o.dst with |some d=>decide (d<nt)|none=>true) then some rs else none
def FA (t:TypeId):Option Nat:=match P.underlying t with|some .bool=>some 0|some .string=>some 1|some (.int .i64)=>some 2|_=>none
def C7 (t:TypeId):Option (Nat×TypeId):=match P.underlying t with|some (.map k e)=>(FA P k).map fun kt=>(kt,e)|_=>none
def DW (t:TypeId):Option V:=(P.info? t).bind fun i=>i.zero.bind pR
def Ht [cB](o:Oper):Option St:=
 if o.guard.isSome then none else
 match o.op,o.dst with
 | .move x,some d=>(m9 P o.type x).bind fun s=>some (.mv d s)| .assign x,some d=>(m9 P o.type x).bind fun s=>some (.as d s)
 | .indexAddr t x i,some d=>match P.underlying t with
  |some (.slice e)=>(cS x).bind fun s=>(cS i).bind fun j=>if(P.underlying e).isSome then some (.ix d (P.cellsOf e) s j) else none|_=>none
 | .fieldAddr t x i,some d=>match P.underlying t with
  |some (.struct fs)=>(fs[i]?).bind fun f=>(cS x).bind fun s=>if 0<P.cellsOf f.type then some (.fa d f.offset (P.cellsOf f.type) s) else none|_=>none
 | .store t a v,none=>(cS a).bind fun s=>(cS v).bind fun v=>if P.cellsOf t=0 then none else some (.sto (P.cellsOf t) s v)| .extract (.tmp n) i,some d=>some (.ext d i n)| .makeMap t none,some d=>(C7 P t).bind fun _=>some (.mkm d)| .lookup t x k false,some d=>(C7 P t).bind fun p=>(DW P p.2).bind fun z=>(cS x).bind fun s=>(cS k).bind fun k=>some (.mget d p.1 z s k)| .mapUpdate t x k v,none=>(C7 P t).bind fun p=>(cS x).bind fun s=>(cS k).bind fun k=>(cS v).bind fun v=>some (.mset p.1 s k v)
 | .makeSlice t (.tmp x) (.tmp y),some d=>(AS P t).bind fun k=>(KV P t).bind fun b=>(CG P t).bind fun e=>(DW P e).bind fun z=>
  if x=y/\0<k/\0<b/\z.cells.length=k/\z.cells.all V.cell=true then some (.mks d e b z (.t x)) else none
 | .convert t u x,some d=>match P.underlying t,P.underlying u with
  |some .string,some (.slice e)=>match P.underlying e with
   |some (.int .u8)=>(cS x).bind fun s=>if P.cellsOf e=1 then some (.s2b d e s) else none|_=>none
  |some (.int _),some (.int k)=>(cS x).bind fun s=>some (.q d (.cnv k) [s])
  |some (.slice e),some .string=>match P.underlying e with
   |some (.int .u8)=>(cS x).bind fun s=>some (.q d .b2s [s])|_=>none
  |_,_=>none
 | .box t x,some d=>(cS x).bind fun s=>if P.cellsOf t=0 then none else some (.box d s)| .alloc t,some d=>(sK P t).bind fun z=>some (.alo d z)| .makeFunc fn fs cs,some d=>(srcs (fs.toList++cs.toList)).bind fun xs=>some (.mkf d fn fs.size xs)
 | .buildSlice t n ps,some d=>match AS P t with
  |some k=>(CG P t).bind fun e=>if n*k<=16777216/\0<k/\ps.toList.map (·.1)=List.range n/\(sK P (P.elem t)).isSome then(srcs (ps.toList.map (·.2))).bind fun xs=>some (.bsl d e k xs) else none|none=>none
 | .call {callee:= .builtin .append,args,argTypes},some d=>match args.toList,argTypes.toList with
  |[x,y],[t,u]=>(AS P t).bind fun k=>(KV P t).bind fun b=>(m9 P t x).bind fun s=>(cS y).bind fun z=>(CG P t).bind fun e=>(sK P e).bind fun zc=>if t=u/\0<k/\0<b/\zc.length=k then some (.app d e k b s z) else none|_,_=>none
 | .call {callee:= .builtin .copy,args,argTypes},d=>match args.toList,argTypes.toList with
  |[x,y],[t,_]=>match P.underlying t with
   |some (.slice e)=>(cS x).bind fun s=>(cS y).bind fun z=>if(P.info? e).isSome=true then some (.cpy d e (P.cellsOf e) s z) else none|_=>none
  |_,_=>none
 |op,d=>(wI P op).bind fun(p,xs)=>(srcs xs).bind fun ss=>match p,d with
  | .call _ f,d=>if(cB.muts.lookup f).isSome then((Js (Bk f).pos ss).map fun p=> .callm d f (Bk f) p.1 p.2) else some (.call d f ss)| .callv _,d=>some (.callv d ss)| .bld z ps,some d=>some (.bld d z ps ss)| .slc k lo hi,some d=>some (.slc d k lo hi ss)| .mv,_| .ix _,_| .fa _ _,_| .ext _,_| .bsl _,_=>none|p,some d=>some (.q d p ss)|_,none=>none
def n9 [cB]:List Oper->Option (List St)
 |[]=>some []|o::r=>(Ht P o).bind fun s=>(n9 r).bind fun ss=>some (s::ss)
def PE (aJ:List Oper)(g:Nat×Bool):Option (Nat×Bool):=((aJ[g.1]?).bind (·.dst)).map fun d=>(d,g.2)
def Je [cB](aJ:List Oper)(o:Oper):Option gX:=match o.guard with
 |some g=>(PE aJ g).bind fun g=>(Ht P {o with guard:=none}).map fun s=> .gd g.1 g.2 o.dst s
 |none=>match o.op,o.dst with
  | .pick (.tmp c) a b,some d=>(cS a).bind fun a=>(cS b).bind fun b=>some (.pick d c a b)|_,_=>(Ht P o).map .s
def G8 [cB](aJ:List Oper):List Oper->Option (List gX)
 |[]=>some []|o::r=>(Je P aJ o).bind fun s=>(G8 aJ r).bind fun ss=>some (s::ss)
def dM5 (o:Oper):List Nat:=o.dst.toList++o.op.operands.toList.filterMap fun
 | .tmp t=>some t|_=>none
def Jq:Code->List (List Nat)
 | .region _ aJ _=>[(aJ.toList.flatMap dM5).eraseDups]| .seq a b=>Jq a++Jq b| .cond (.tmp t) a b=>[t]::(Jq a++Jq b)| .cond _ a b=>Jq a++Jq b| .block _ a| .loop a| .scope a=>Jq a|_=>[]
def Er (f:Func):List Nat:=f.results.toList.map fun
 | .tmp t=>t| .cell t _=>t
def bJ7 (seen:List Nat)(dups:List Nat):List (List Nat)->List Nat
 |[]=>dups|l::r=>bJ7 (l.filter (fun t=> !seen.contains t)++seen) (l.filter (fun t=>seen.contains t&& !dups.contains t)++dups) r
def union (a b:List Nat):List Nat:=a++b.filter fun t=> !a.contains t
def Bn (f:Func)(c:Code):List Nat:=union (List.range (f.params.size+f.nfree)) (bJ7 [] [] (Er f::List.range (f.params.size+f.nfree)::Jq c))
def bK0 (a b:List Nat):List Nat:=a.filter fun t=> !b.contains t
def aS1:List Oper->List Nat×List Nat
 |[]=>([],[])
 |o::r=>let (u,d):=aS1 r
  let us:=o.op.operands.toList.filterMap fun | .tmp t=>some t|_=>none;let ds:=if o.guard.isNone then o.dst.toList else[]
  (union us.eraseDups (bK0 u ds),union ds d)
def aC1 (es:List (Nat×List Nat))(id:Nat):List Nat:=match es with|[]=>[]|p::r=>if p.1=id then p.2 else aC1 r id
def vB (ret:List Nat):Code->List (Nat×List Nat)->List Nat->List Nat
 | .region _ aJ _,_,out=>let (u,d):=aS1 aJ.toList;union u (bK0 out d)| .seq a b,es,out=>vB ret a es (vB ret b es out)| .cond (.tmp t) a b,es,out=>union [t] (union (vB ret a es out) (vB ret b es out))| .cond _ a b,es,out=>union (vB ret a es out) (vB ret b es out)| .block id a,es,out=>vB ret a ((id,out)::es) out| .loop a,es,_=>vB ret a es (vB ret a es [])| .scope a,es,out=>vB ret a es out| .exit id,es,_=>aC1 es id| .ret,_,_=>ret|_,_,out=>out
def bQ4 (x:Nat):List Nat->List Nat
 |[]=>[x]|y::r=>if x<=y then x::y::r else y::bQ4 x r
def Ln (l:List Nat):List Nat:=l.foldr bQ4 []
def M4:Operand->Option X
 | .tmp t=>some (.sl t)| .const (.bool b)=>some (.k (.b b))|_=>none
def aZ9:C:= dV 0 Q7 []
def Mr (af:List (List Nat)):List (List Nat):=af.map fun a=>(List.range af.length).filter fun j=>a.contains j||a.any fun k=>(af.getD k []).contains j
def EP (af:List (List Nat)):List (List Nat):=Mr (Mr (Mr (Mr af)))
def aF5 [cB](nt:Nat)(keep:List Nat)(aJ:Array Oper)(draw:Bool):Option C:=
 if !aJ.toList.all (fun o=>match o.dst with |some d=>decide (d<nt)|none=>true) then none else match n9 P aJ.toList with
 |none=>(G8 P aJ.toList aJ.toList).bind fun ss=>
  let ks:=(aJ.toList.flatMap fun o=>o.dst.toList).filter fun t=> !keep.contains t
  if draw then(if(List.range aJ.size).all fun i=>match aJ[i]? with |some o=>(eD o).all fun j=>decide (j<i)|none=>false then some (.dg ss (EP (aJ.toList.map eD)) ks) else none) else some (.g ss ks)
 |some ss=>
  let ks:=(aJ.toList.flatMap fun o=>o.dst.toList).filter fun t=> !keep.contains t
  if draw then(if(List.range aJ.size).all fun i=>match aJ[i]? with |some o=>(eD o).all fun j=>decide (j<i)|none=>false then some (.d ss (EP (aJ.toList.map eD)) ks) else none) else some (.s ss ks)
def pJ [cB](nt:Nat)(keep ret:List Nat):Code->List (Nat×List Nat)->List Nat->Option C
 | .skip,_,_=>some .skip
 | .region _ aJ draw,_,_=>
  let q:=if(JQ keep aJ.toList).all fun d=>(aJ.toList.filter fun o=>o.dst==some d).all fun o=>Vq P 12 o.type then(match(if !draw||eX5 P aJ.toList then Yc P nt keep aJ.toList draw else none) with |some rs=>some rs|none=>if draw then Yd P nt keep aJ.toList else none) else none
  match q with|some rs=>some (.q rs)|none=>some ((aF5 P nt keep aJ draw).getD aZ9)
 | .seq a b,es,out=>(pJ nt keep ret a es (vB ret b es out)).bind fun a=>(pJ nt keep ret b es out).bind fun b=>some (.seq a b)| .cond c a b,es,out=>(M4 c).bind fun x=>(pJ nt keep ret a es out).bind fun a=>(pJ nt keep ret b es out).bind fun b=>some (.cond x a b)| .block id a,es,out=>(pJ nt keep ret a ((id,out)::es) out).bind fun a=>some (.blk id a)
 | .loop a,es,out=>let l:=Ln ((vB ret (.loop a) es out).filter fun t=>keep.contains t)
  (pJ nt keep ret a es l).bind fun c=>some (.loop l c)
 | .exit id,es,_=>some (.exit id (Ln ((aC1 es id).filter fun t=>keep.contains t)))| .ret,_,_=>some (.ret ret)|_,_,_=>none
def sY:List ResultVar->Option (List RV)
 |[]=>some []| .tmp t::r=>(sY r).map fun rs=> .tmp t::rs| .cell t ty::r=>if(P.underlying ty).isSome&&(eJ P ty||P.cellsOf ty==1) then(sY r).map fun rs=> .cell t (P.cellsOf ty) (eJ P ty)::rs else none
def oU [cB](f:Func):Option aQ:=f.body.bind fun c=>
 let ret:=Er f
 (pJ P f.ntmps (Bn f c) ret c [] ret).bind fun b=>(sY P f.results.toList).bind fun rs=>if f.params.size+f.nfree<=f.ntmps/\(P.follows .mixedOrders=true) then some ⟨f.params.size+f.nfree,rs,b⟩ else none
end
end Go.VM
namespace Go.VM
open Go.RowKit
def dR:Value->Option Nat
 | .slice (some a) _ _=>some a.block| .pointer (some a)=>some a.block| .map (some g)=>some g|_=>none
def GI (P:Program)(S:Nat->Prop)(w:World)(aD:Nat)(e:TypeId)(es:List V)(v:Value):Prop:=
 ∃vs:List Value,w.ownsRow aD e (P.cellsOf e) v es.length vs/\(∀x∈es,x.cells.length=P.cellsOf e)/\(∀x∈cL es,x.cell=true)/\aX S w vs (cL es)
def P' (S:Nat->Prop)(w:World)(aD:Nat)(cs:List V)(v:Value):Prop:=
 ∃(g:Nat) (vs:List Value) (ty:TypeId),v= .pointer (some ⟨g,0,none⟩)/\aD<=g/\w.heap[g]? =some (.cells vs.toArray ty (0,0))/\(∀x∈cs,x.cell=true)/\aX S w vs cs
def XP (w:World)(aD:Nat)(ks vs:List V)(v:Value):Prop:=
 ∃(g:Nat) (es:Array MapEntry) (clock:Nat),v= .map (some g)/\aD<=g/\w.heap[g]? =some (.map es clock)/\es.toList.map (·.key)=ks.map V.toVal/\es.toList.map (·.val)=vs.map V.toVal/\(∀x∈ks,x.uniq=true)/\(∀x∈vs,x.uniq=true)/\(es.toList.map (·.born)).Nodup/\∀x∈es.toList,x.born<clock
def fL (P:Program)(S:Nat->Prop)(w:World)(aD:Nat)(v:Value):V->Prop
 | .ow e es=>GI P S w aD e es v/\∀g,dR v=some g->¬S g| .bx cs=>P' S w aD cs v/\∀g,dR v=some g->¬S g| .mp ks vs=>XP w aD ks vs v/\∀g,dR v=some g->¬S g| .al _| .pe .. | .pb .. | .t _| .ud=>False|x=>aP S w v x
def apart (us:List Value)(ys:List V):Prop:=∀(i j:Nat) u u' y y' g,i≠j->us[i]? =some u->us[j]? =some u'->ys[i]? =some y->ys[j]? =some y'->
 y.isOwn=true->y'.isOwn=true->dR u=some g->dR u'≠some g
def mJ (P:Program)(S:Nat->Prop)(w:World)(aD:Nat)(v:Value):V->Prop
 | .t ys=>∃us:List Value,v= .tuple us.toArray/\us.length=ys.length/\(∀(j:Nat) u y,us[j]? =some u->ys[j]? =some y->fL P S w aD u y)/\apart us ys|y=>fL P S w aD v y
def mV [cB](S:Nat->Prop)(w:World):Prop:=∀p∈cB.gs,aP S w (.pointer (some ⟨p.1,0,none⟩)) (.r p.2)/\S p.1/\w.cell? ⟨p.1,p.2.length,none⟩=none
def mV.move [cB]{S S':Nat->Prop}{w w':World}(h:mV S w)(hS:∀b,S b->S' b)(hw:∀p:Addr,S p.block->w'.cell? p=w.cell? p):mV S' w':=fun p hp=>⟨(h p hp).1.move hS hw,hS _ (h p hp).2.1,(hw ⟨p.1,p.2.length,none⟩ (h p hp).2.1).trans (h p hp).2.2⟩
def bL4 {g:Nat}{cs:List V}:∀{l:List (Nat×List V)},l.lookup g=some cs->(g,cs)∈l
 |p::l,h=>by
  rw[List.lookup] at h;split at h;rename_i he;cases h;have:g=p.1:=by simpa using he
  subst this;exact dC ..;exact dL _ (bL4 h)
def mV.val [cB]{S:Nat->Prop}{w:World}(h:mV S w){g:Nat}{x:V}(hx:yH g=some x):aP S w (.pointer (some ⟨g,0,none⟩)) x:=by unfold yH at hx;cases hl:cB.gs.lookup g with|none=>rw[hl] at hx;cases hx|some cs=>rw[hl] at hx;cases hx;exact(h _ (bL4 hl)).1
def Rj [cB]{g:Nat}{x:V}(hx:yH g=some x):∃cs,x= .r cs:=by unfold yH at hx;cases hl:cB.gs.lookup g with|none=>rw[hl] at hx;cases hx|some cs=>rw[hl] at hx;cases hx;exact⟨_,rfl⟩
def PF [cB](P:Program)(f:FuncId)(xs:List V)(y:V):Prop:=
 ∀(S:Nat->Prop) (w:World) (vs:List Value),(∀b,S b->b<w.heap.size)->mV S w->aX S w vs xs->
  Calls P f vs.toArray w fun e w'=>∃v,e= .returned v/\Below w.heap.size w w'/\
   ∃S':Nat->Prop,(∀b,S b->S' b)/\(∀b,S' b->(S b\/w.heap.size<=b)/\b<w'.heap.size)/\mJ P S' w' w.heap.size v y
def jG (P:Program)(f:FuncId):Bool:=match P.funcs[f]? with|some fn=>fn.name != "runtime.NumGoroutine"&&fn.body.isSome|none=>false
def HT (P:Program)(S:Nat->Prop)(w:World)(aD:Nat)(u v:Value):V->Prop
 | .ow e es=>GI P S w aD e es v/\(∀g,dR v=some g->¬S g)/\∀g,dR v=some g->dR u≠some g|x=>aP S w v x
def vO (P:Program)(S:Nat->Prop)(w:World)(aD:Nat)(u:Value)(us:List Value)(xs:List V):Prop:=us.length=xs.length/\∀(j:Nat) v x,us[j]? =some v->xs[j]? =some x->HT P S w aD u v x
def HT.of_rep {P:Program}{S:Nat->Prop}{w:World}{aD:Nat}{u v:Value}{x:V}(h:aP S w v x):HT P S w aD u v x:=by cases x<;>first |exact h|(cases h;done)
def vO.of_reps {P:Program}{S:Nat->Prop}{w:World}{aD:Nat}{u:Value}{us:List Value}{xs:List V}(h:aX S w us xs):vO P S w aD u us xs:=⟨h.1,fun j v x hj hx=> .of_rep (h.2 j v x hj hx)⟩
def vO.nil {P:Program}{S:Nat->Prop}{w:World}{aD:Nat}{u:Value}:vO P S w aD u [] []:= .of_reps aX.nil
def vO.cons {P:Program}{S:Nat->Prop}{w:World}{aD:Nat}{u v:Value}{x:V}{us:List Value}{xs:List V}(h:HT P S w aD u v x)(hs:vO P S w aD u us xs):vO P S w aD u (v::us) (x::xs):=by refine⟨by simp[hs.1],fun j u' y hu hy=> ?_⟩;cases j with|zero=>simp at hu hy;subst hu;subst hy;exact h|succ j=>simp at hu hy;exact hs.2 j u' y hu hy
def vO.head {P:Program}{S:Nat->Prop}{w:World}{aD:Nat}{u v:Value}{x:V}{us:List Value}{xs:List V}(h:vO P S w aD u (v::us) (x::xs)):HT P S w aD u v x:=h.2 0 v x rfl rfl
def vO.tail {P:Program}{S:Nat->Prop}{w:World}{aD:Nat}{u v:Value}{x:V}{us:List Value}{xs:List V}(h:vO P S w aD u (v::us) (x::xs)):vO P S w aD u us xs:=
 ⟨by simpa using h.1,fun j u' y hu hy=>h.2 (j+1) u' y (by simpa using hu) (by simpa using hy)⟩
def Pw [cB](P:Program)(f:FuncId)(pos:Nat)(e:TypeId)(ret nl:Bool)(es xs bW:List V):Prop:=
 ∀(S:Nat->Prop) (w:World) (aD:Nat) (u:Value) (vs us:List Value),(∀b,S b->b<w.heap.size)->mV S w->aD<=w.heap.size->w.ownsRow aD e (P.cellsOf e) u es.length vs->(∀x∈es,x.cells.length=P.cellsOf e)->(∀x∈cL es,x.cell=true)->
  aX S w vs (cL es)->(∀g,u.ownBlock=some g->¬S g)->vO P S w aD u us xs->(nl=true->u= .slice none 0 0)->
  Calls P f (lC pos u us).toArray w fun ex w'=>∃(r v':Value) (dU:List Value),ex= .returned r/\w.grownBy w' u.ownBlock/\(∀g,v'.ownBlock=some g->u.ownBlock=some g\/w.heap.size<=g)/\w'.ownsRow aD e (P.cellsOf e) v' bW.length dU/\(∀x∈bW,x.cells.length=P.cellsOf e)/\
   (∀x∈cL bW,x.cell=true)/\aX S w dU (cL bW)/\(if ret=true then r=v' else v'=u/\r= .tuple #[])
def JD [cB](P:Program)(f:FuncId)(e:TypeId)(ret nl:Bool)(es xs bW:List V):Prop:=
 ∀(S:Nat->Prop) (w:World) (aD:Nat) (u:Value) (vs us:List Value),(∀b,S b->b<w.heap.size)->mV S w->aD<=w.heap.size->w.ownsRow aD e (P.cellsOf e) u es.length vs->(∀x∈es,x.cells.length=P.cellsOf e)->(∀x∈cL es,x.cell=true)->
  aX S w vs (cL es)->(∀g,u.ownBlock=some g->¬S g)->vO P S w aD u us xs->(nl=true->u= .slice none 0 0)->
  Calls P f (u::us).toArray w fun ex w'=>∃(r v':Value) (dU:List Value),ex= .returned r/\w.grownBy w' u.ownBlock/\(v'.ownBlock=u.ownBlock\/v'.ownBlock=some w.heap.size)/\w'.ownsRow aD e (P.cellsOf e) v' bW.length dU/\(∀x∈bW,x.cells.length=P.cellsOf e)/\
   (∀x∈cL bW,x.cell=true)/\aX S w dU (cL bW)/\(if ret=true then r=v' else v'=u/\r= .tuple #[])
def aB0 {w:World}{v':Value}{row:Option Nat}(h:v'.ownBlock=row\/v'.ownBlock=some w.heap.size):∀g,v'.ownBlock=some g->row=some g\/w.heap.size<=g:=by intro g hg;rcases h with h|h;exact .inl (h▸hg);rw[h] at hg;cases hg;exact .inr (dD _)
def JD.p [cB]{P:Program}{f:FuncId}{e:TypeId}{ret nl:Bool}{es xs bW:List V}(h:JD P f e ret nl es xs bW):Pw P f 0 e ret nl es xs bW:=by intro S w aD u vs us h1 h2 h3 h4 h5 h6 h7 h8 h9 oT;refine(h S w aD u vs us h1 h2 h3 h4 h5 h6 h7 h8 h9 oT).mono fun ex w' ⟨r,v',dU,he,hg,hv,hr⟩=>⟨r,v',dU,he,hg,aB0 hv,hr⟩
def Ko [cB](P:Program):Prop:=∀f mu,cB.muts.lookup f=some mu->jG P f=true/\∀es xs bW,mu.run es xs=some bW->Pw P f mu.pos mu.ty mu.ret mu.nl es xs bW
def eL [cB](P:Program)(o:aU):Prop:=Ko P/\∀f xs y,o f xs=some y->jG P f=true/\PF P f xs y
def aP.oneCell {S:Nat->Prop}{w:World}{v:Value}{x:V}(h:aP S w v x)(hx:x.cell=true):v.oneCell'=true:=by cases h<;>first |rfl|simp[V.cell] at hx
def aP.bel {S:Nat->Prop}{w w':World}{v:Value}{x:V}{B:Nat}(h:aP S w v x)(hS:∀b,S b->b<B)(hb:Below B w w'):aP S w' v x:=
 h.keep fun _ hp=>hb.cell (hS _ hp)
def aX.bel {S:Nat->Prop}{w w':World}{vs:List Value}{xs:List V}{B:Nat}(h:aX S w vs xs)(hS:∀b,S b->b<B)(hb:Below B w w'):aX S w' vs xs:=
 h.move (fun _ h=>h) fun _ hp=>hb.cell (hS _ hp)
def aX.mono {S S':Nat->Prop}{w:World}{vs:List Value}{xs:List V}(h:aX S w vs xs)(hS:∀b,S b->S' b):aX S' w vs xs:=h.move hS fun _ _=>rfl
def aX.getD {S:Nat->Prop}{w:World}{vs:List Value}{xs:List V}(h:aX S w vs xs){j:Nat}{x:V}(hx:xs[j]? =some x):∃u,vs[j]? =some u/\aP S w u x:=by
 have hj:j<xs.length:=(fE.1 hx).1;have jH:j<vs.length:=by rw[h.1];exact hj
 exact⟨vs[j],eI jH,h.2 j _ x (eI jH) hx⟩
def aX.drop {S:Nat->Prop}{w:World}{vs:List Value}{xs:List V}(h:aX S w vs xs)(n:Nat):aX S w (vs.drop n) (xs.drop n):=
 ⟨by simp[h.1],fun j u x hu hx=>h.2 (n+j) u x (by simpa using hu) (by simpa using hx)⟩
def aX.take {S:Nat->Prop}{w:World}{vs:List Value}{xs:List V}(h:aX S w vs xs)(n:Nat):aX S w (vs.take n) (xs.take n):=by refine⟨by simp[h.1],fun j u x hu hx=> ?_⟩;rw[qE] at hu hx;by_cases hj:j<n;rw[aY hj] at hu hx;exact h.2 j u x hu hx;rw[aK hj] at hu;cases hu
def tC (e:V)(es:List V):cL (e::es)=e.cells++cL es:=rfl
def BH (es fs:List V):cL (es++fs)=cL es++cL fs:=by simp[cL]
def Vn {k:Nat}:∀{es:List V},(∀e∈es,e.cells.length=k)->(cL es).length=es.length*k
 |[],_=>by simp[cL]|e::es,h=>by have h1:=h e (dC ..);have h2:=Vn (es:=es) fun x hx=>h x (dL _ hx);rw[tC,kH,h1,h2,fY,CM,Nat.add_comm]
def KR {k:Nat}:∀{es:List V} (i:Nat),(∀e∈es,e.cells.length=k)->(cL es).drop (i*k)=cL (es.drop i)
 |es,0,_=>by simp|[],i+1,_=>by simp[cL]|e::es,i+1,h=>by have h1:=h e (dC ..);have h2:=KR (es:=es) i fun x hx=>h x (dL _ hx);rw[tC,List.drop_succ_cons,<-h2,Tn,h1,EW (by rw[h1,CM];omega),DY,show(i+1)*k - k=i*k from by rw[CM];omega]
def I8 {k:Nat}:∀{es:List V} (i:Nat),(∀e∈es,e.cells.length=k)->(cL es).take (i*k)=cL (es.take i)
 |es,0,_=>by simp[cL]|[],i+1,_=>by simp[cL]|e::es,i+1,h=>by have h1:=h e (dC ..);have h2:=I8 (es:=es) i fun x hx=>h x (dL _ hx);rw[tC,List.take_succ_cons,tC,<-h2,LI,h1,rM (by rw[h1,CM];omega),show(i+1)*k - k=i*k from by rw[CM];omega]
def KS {k:Nat}{es:List V}{i:Nat}{e:V}(h:∀e∈es,e.cells.length=k)(he:es[i]? =some e):((cL es).drop (i*k)).take k=e.cells:=by
 rw[KR i h];have hi:i<es.length:=(fE.1 he).1;have hd:es.drop i=e::es.drop (i+1):=by rw[List.drop_eq_getElem_cons hi];have:=(fE.1 he).2;rw[this]
 rw[hd,tC];have hl:=h e (k6 he);rw[<-hl,List.take_left]
def EQ (a:Addr)(i j:Nat):(a.add i).add j=a.add (i+j):=by unfold Addr.add;by_cases hi:i=0<;>by_cases hj:j=0<;>simp[hi,hj,UC]
def aP.slice {S:Nat->Prop}{w:World}{v:Value}{es:List V}(h:aP S w v (.l es)):
  ∃(a:Option Addr) (c k:Nat) (vs:List Value),v= .slice a es.length c/\(∀e∈es,e.cells.length=k)/\(∀x∈cL es,x.cell=true)/\aX S w vs (cL es)/\es.length<=c/\
   (es=[]\/∃ad,a=some ad/\S ad.block/\∀(j:Nat) u,vs[j]? =some u->w.cell? (ad.add j)=some u):=by
 cases h with|l0 a c=>exact⟨a,c,0,[],rfl,by simp,by simp[cL],aX.nil,A6 _,.inl rfl⟩|l a c k _ vs hs hc hk h1 hl hu h=>exact⟨some a,c,k,vs,rfl,hk,h1,⟨hl,h⟩,hc,.inr ⟨a,rfl,hs,hu⟩⟩
def aP.mk_slice {S:Nat->Prop}{w:World}{a:Option Addr}{c k:Nat}{es:List V}{vs:List Value}(hk:∀e∈es,e.cells.length=k)(h1:∀x∈cL es,x.cell=true)(hr:aX S w vs (cL es))
  (hc:es.length<=c)(ha:es=[]\/∃ad,a=some ad/\S ad.block/\∀(j:Nat) u,vs[j]? =some u->w.cell? (ad.add j)=some u):aP S w (.slice a es.length c) (.l es):=by
 rcases ha with rfl|⟨ad,rfl,hs,hu⟩;exact .l0 _ _;exact .l ad c k es vs hs hc hk h1 hr.1 hu hr.2
def aP.ptr {S:Nat->Prop}{w:World}{v:Value}{cs:List V}(h:aP S w v (.r cs)):
  ∃(a:Addr) (vs:List Value),v= .pointer (some a)/\S a.block/\(∀x∈cs,x.cell=true)/\aX S w vs cs/\∀(j:Nat) u,vs[j]? =some u->w.cell? (a.add j)=some u:=by
 cases h with|r a _ vs hs h1 hl hu h=>exact⟨a,vs,rfl,hs,h1,⟨hl,h⟩,hu⟩
def aP.agg {S:Nat->Prop}{w:World}{v:Value}{cs:List V}(h:aP S w v (.a cs)):
  ∃us:List Value,v= .agg us.toArray/\(∀x∈cs,x.cell=true)/\aX S w us cs:=by
 cases h with|a us _ hl h1 h=>exact⟨us.toList,by simp,h1,by simpa using hl,fun j u x hu hx=>h j u x (by simpa using hu) hx⟩
def aP.mk_agg {S:Nat->Prop}{w:World}{us:List Value}{cs:List V}(h1:∀x∈cs,x.cell=true)(h:aX S w us cs):aP S w (.agg us.toArray) (.a cs):=
 .a _ _ (by simpa using h.1) h1 fun j u x hu hx=>h.2 j u x (by simpa using hu) hx
def aP.cells {S:Nat->Prop}{w:World}{v:Value}{x:V}(h:aP S w v x):aX S w v.cells.toList x.cells:=by cases h with|a us cs hl h1 h=>exact⟨by simpa[Value.cells,V.cells] using hl,fun j u x hu hx=>h j u x (by simpa[Value.cells] using hu) (by simpa[V.cells] using hx)⟩|b x=>exact aX.cons (.b x) aX.nil|i k n=>exact aX.cons (.i k n) aX.nil|s x=>exact aX.cons (.s x) aX.nil|l0 a c=>exact aX.cons (.l0 a c) aX.nil|l a c k es vs hs hc hk h1 hl hu h=>exact aX.cons (.l a c k es vs hs hc hk h1 hl hu h) aX.nil|r a cs vs hs h1 hl hu h=>exact aX.cons (.r a cs vs hs h1 hl hu h) aX.nil|f fn fs cs xs ys hx hy h h'=>exact aX.cons (.f fn fs cs xs ys hx hy h h') aX.nil|t us ys hl h=>exact aX.cons (.t us ys hl h) aX.nil|nf=>exact aX.cons .nf aX.nil|np=>exact aX.cons .np aX.nil|um r=>exact aX.cons (.um r) aX.nil|pt b=>exact aX.cons (.pt b) aX.nil|mr r=>exact aX.cons (.mr r) aX.nil
def GI.frz {P:Program}{S:Nat->Prop}{w:World}{aD:Nat}{e:TypeId}{es:List V}{v:Value}(h:GI P S w aD e es v){S':Nat->Prop}(hS:∀b,S b->S' b)(hg:∀g,dR v=some g->S' g):aP S' w v (.l es):=by obtain⟨vs,⟨hl,hv⟩,hk,h1,hr⟩:=h;rcases hv with⟨rfl,h0⟩|⟨g,cap,cur,rfl,jR,hh,hn,_,dA,ht⟩;have:es=[]:=pL h0;subst this;exact .l0 _ _;refine aP.mk_slice hk h1 (hr.mono hS) hn (.inr ⟨_,rfl,hg _ rfl,fun j u hj=> ?_⟩);have jH:j<vs.length:=(fE.1 hj).1;rw[<-ht,qE] at hj;split at hj;simp only[World.cell?,wZ,hh];unfold Addr.add;split;rename_i hj0;subst hj0;simpa using hj;simpa using hj;cases hj
def P'.frz {S:Nat->Prop}{w:World}{aD:Nat}{cs:List V}{v:Value}(h:P' S w aD cs v){S':Nat->Prop}(hS:∀b,S b->S' b)(hg:∀g,dR v=some g->S' g):aP S' w v (.r cs):=by obtain⟨g,vs,ty,rfl,hb,hh,h1,hr⟩:=h;refine .r _ _ vs (hg _ rfl) h1 hr.1 (fun j u hj=> ?_) (hr.mono hS).2;simp only[World.cell?,wZ,hh];unfold Addr.add;split;rename_i hj0;subst hj0;simpa using hj;simpa using hj
end Go.VM
namespace Go.VM
open Go.RowKit
section
variable {P:Program} {S:Nat->Prop} {w:World}
def cA1 (op:BinOp)(t:TypeId)(x y:Operand)(a b:Value)(v1 v2 v:V)(h1:aP S w a v1)(h2:aP S w b v2)(hv:lQ op v1 v2=some v):
  ∃u,aP S w u v/\∀w':World,(do eqGuard op t x y a b;binOp op t a b:Sem Value).run P w'= .ok u w':=by
 cases v1 with
 |i k m=>
  cases v2 with
  |i k' m'=>
   cases h1;cases h2;by_cases hk:k=k'
   ·subst hk;cases op<;>simp only[lQ,zC,jA] at hv
    case add=>cases hv;exact⟨_,.i _ _,fun w'=>by simp[eqGuard,binOp,Op.intArith]⟩
    case sub=>cases hv;exact⟨_,.i _ _,fun w'=>by simp[eqGuard,binOp,Op.intArith]⟩
    case mul=>cases hv;exact⟨_,.i _ _,fun w'=>by simp[eqGuard,binOp,Op.intArith]⟩
    case quo=>split at hv<;>cases hv;rename_i h0;exact⟨_,.i _ _,fun w'=>by simp[eqGuard,binOp,Op.intDiv,h0]⟩
    case rem=>split at hv<;>cases hv;rename_i h0;exact⟨_,.i _ _,fun w'=>by simp[eqGuard,binOp,Op.intDiv,h0]⟩
    case and=>cases hv;exact⟨_,.i _ _,fun w'=>by simp[eqGuard,binOp,Op.intBits,wX]⟩
    case or=>cases hv;exact⟨_,.i _ _,fun w'=>by simp[eqGuard,binOp,Op.intBits,wX]⟩
    case xor=>cases hv;exact⟨_,.i _ _,fun w'=>by simp[eqGuard,binOp,Op.intBits,wX]⟩
    case andNot=>cases hv;exact⟨_,.i _ _,fun w'=>by simp[eqGuard,binOp,Op.intBits,wX]⟩
    case shl=>split at hv<;>cases hv;rename_i h0;exact⟨_,.i _ _,fun w'=>by simp[eqGuard,binOp,Op.shift,h0]⟩
    case shr=>split at hv<;>cases hv;rename_i h0;exact⟨_,.i _ _,fun w'=>by simp[eqGuard,binOp,Op.shift,h0]⟩
    case eql=>cases hv;exact⟨_,.b _,fun w'=>by simp[eqGuard,binOp,Op.intCmp];rfl⟩
    case neq=>cases hv;exact⟨_,.b _,fun w'=>by simp[eqGuard,binOp,Op.intCmp,bne];rfl⟩
    case lss=>cases hv;exact⟨_,.b _,fun w'=>by simp[eqGuard,binOp,Op.intCmp]⟩
    case leq=>cases hv;exact⟨_,.b _,fun w'=>by simp[eqGuard,binOp,Op.intCmp]⟩
    case gtr=>cases hv;exact⟨_,.b _,fun w'=>by simp[eqGuard,binOp,Op.intCmp]⟩
    case geq=>cases hv;exact⟨_,.b _,fun w'=>by simp[eqGuard,binOp,Op.intCmp]⟩
   ·cases op<;>simp only[lQ,hk,mW] at hv<;>try cases hv
    case shl=>split at hv<;>cases hv;rename_i h0;exact⟨_,.i _ _,fun w'=>by simp[eqGuard,binOp,Op.shift,h0]⟩
    case shr=>split at hv<;>cases hv;rename_i h0;exact⟨_,.i _ _,fun w'=>by simp[eqGuard,binOp,Op.shift,h0]⟩
  |_=>simp[lQ] at hv
 |s m=>
  cases v2 with
  |s m'=>
   cases h1;cases h2;rename_i p q;have ep:p.toList=p.data.toList:=ByteArray.toList_eq p;have eq:q.toList=q.data.toList:=ByteArray.toList_eq q;have hd:(p.data==q.data)=decide (p.data=q.data):=LA.2 (by simp);cases op<;>simp only[lQ,Hz] at hv<;>try cases hv
   case add=>
    split at hv<;>cases hv;rename_i h0;refine⟨.string (p++q),by simpa using aP.s (S:=S) (w:=w) (p++q),fun w'=> ?_⟩;have:¬(9223372036854775807<((p.size+q.size:Nat):Int)):=by
     have:p.size+q.size<=9223372036854775807:=by simpa using h0
     omega
    simp[eqGuard,binOp,Op.stringOp,IntKind.max,IntKind.signed,IntKind.bits];omega
   all_goals exact⟨_,.b _,fun w'=>by simp[eqGuard,binOp,Op.stringOp,ep,eq,hd]⟩
  |_=>simp[lQ] at hv
 |_=>simp[lQ] at hv
def eZ2 (op:BinOp)(t:TypeId)(hu:P.underlying t=some .bool)(x y:Operand)(a b:Value)(v1 v2 v:V)(h1:aP S w a v1)(h2:aP S w b v2)(hv:Kg op v1 v2=some v):
  ∃u,aP S w u v/\∀w':World,(do eqGuard op t x y a b;binOp op t a b:Sem Value).run P w'= .ok u w':=by
 cases v1 with
 |b m=>
  cases v2 with
  |b m'=>
   have hb:∀(d:Nat) (w':World),(Op.equalIn (d+1) t (.bool m) (.bool m')).run P w'= .ok (m==m') w':=fun d w'=>run_equalIn_bool w' d t m m' hu;cases h1;cases h2;cases op<;>simp only[Kg] at hv<;>try cases hv
   all_goals exact⟨_,.b _,fun w'=>by simp[eqGuard,binOp,Op.equal,Op.maxDepth,hb]⟩
  |_=>simp[Kg] at hv
 |_=>simp[Kg] at hv
end
end Go.VM
namespace Go.VM
open Go.RowKit
section
variable {P:Program} {S:Nat->Prop} {w:World}
def eG5 {t:TypeId}{d:TypeDesc}(h:P.underlying t=some d):∃i,P.info? t=some i:=by unfold Program.underlying at h;cases hi:P.info? t with|none=>rw[hi] at h;cases h|some i=>exact⟨i,rfl⟩
def tH {t:TypeId}{d:TypeDesc}(h:P.underlying t=some d)(w':World):(isAgg t).run P w'= .ok (eJ P t) w':=by unfold isAgg eJ;rw[dX,eE h,dQ,h];cases d<;>rfl
def H' {t:TypeId}{d:TypeDesc}(h:P.underlying t=some d)(w':World):(sizeOf t).run P w'= .ok (P.cellsOf t) w':=by obtain⟨i,hi⟩:=eG5 h;exact run_sizeOf w' hi
def zU (P:Program)(t:TypeId)(us:List Value):Value:=if eJ P t then .agg us.toArray else us.headD undef
def VR {t:TypeId}{d:TypeDesc}(h:P.underlying t=some d)(us:List Value)(off:Nat)(hn:off+P.cellsOf t<=us.length)(h1:eJ P t=false->1<=P.cellsOf t)(w':World):
  (part t us.toArray off).run P w'= .ok (zU P t ((us.drop off).take (P.cellsOf t))) w':=by
 unfold part zU;rw[dX,tH h,dQ];cases ha:eJ P t with
 |true=>simp only[jA,dX,H' h,dQ,eU];congr 2;simp[List.extract_eq_take_drop]
 |false=>
  have:=h1 ha;simp only[qW,mW];have bE:off<us.length:=by omega
  have:us.toArray[off]? =some us[off]:=by simp[bE]
  simp only[this,eU];congr 2;have h2:(us.drop off).take (P.cellsOf t)=us[off]::(us.drop (off+1)).take (P.cellsOf t - 1):=by rw[List.drop_eq_getElem_cons bE];obtain⟨k,hk⟩:∃k,P.cellsOf t=k+1:=⟨P.cellsOf t - 1,by omega⟩;rw[hk,List.take_succ_cons,Nat.add_sub_cancel]
  rw[h2];rfl
def eP6 {k1 k2:List Nat}{xs1 ys1 xs2 ys2:List V}(hx:xs1.length=k1.length)(hy:ys1.length=k1.length):
  iL (k1++k2) (xs1++xs2) (ys1++ys2)=(iL k1 xs1 ys1).bind fun a=>(iL k2 xs2 ys2).map fun b=>a&&b:=by
 induction k1 generalizing xs1 ys1 with
 |nil=>have e1:xs1=[]:=pL (by simpa using hx);have e2:ys1=[]:=pL (by simpa using hy);subst e1;subst e2;simp[iL]
 |cons k ks ih=>
  cases xs1 with
  |nil=>simp at hx
  |cons x xs=>
   cases ys1 with
   |nil=>simp at hy
   |cons y ys=>
    have e:=ih (xs1:=xs) (ys1:=ys) (by simpa using hx) (by simpa using hy);simp only[A5]
    match k with|0=>cases x<;>cases y<;>simp only[iL,Option.bind_none,e];cases iL ks xs ys<;>simp;cases iL k2 xs2 ys2<;>simp[Bool.and_assoc]|1=>cases x<;>cases y<;>simp only[iL,Option.bind_none,e];split<;>simp;cases iL ks xs ys<;>simp;cases iL k2 xs2 ys2<;>simp[Bool.and_assoc]|2=>cases x<;>cases y<;>simp only[iL,Option.bind_none,e];cases iL ks xs ys<;>simp;cases iL k2 xs2 ys2<;>simp[Bool.and_assoc]|k+3=>simp[iL]
def bC3:∀(d:Nat) (t:TypeId) (ks:List Nat),sX P d t=some ks->(eJ P t=false->ks.length=1)/\∃td,P.underlying t=some td
 |0,_,_,h=>by simp[sX] at h
 |d+1,t,n,h=>by
  unfold sX at h;unfold eJ;split at h;all_goals(rename_i hu)
  cases h;exact⟨fun _=>rfl,_,hu⟩;cases h;exact⟨fun _=>rfl,_,hu⟩;cases h;exact⟨fun _=>rfl,_,hu⟩;refine⟨fun hf=> ?_,_,hu⟩;rw[hu] at hf;cases hf;cases h
def bV1 {d D:Nat}(hd:∀(t:TypeId) (ks:List Nat),sX P d t=some ks->∀(us vs:List Value) (xs ys:List V) (r:Bool),us.length=ks.length->vs.length=ks.length->aX S w us xs->aX S w vs ys->iL ks xs ys=some r->
  ∀w':World,(Op.equalIn D t (zU P t us) (zU P t vs)).run P w'= .ok r w'):
  ∀(fs:List Field) (off:Nat) (ks:List Nat),ID P (sX P d) off fs=some ks->∀(us vs:List Value) (xs ys:List V) (r:Bool),us.length=off+ks.length->vs.length=off+ks.length->aX S w us xs->aX S w vs ys->iL ks (xs.drop off) (ys.drop off)=some r->
  ∀w':World,(Op.eqFields D us.toArray vs.toArray fs).run P w'= .ok r w'
 |[],off,ks,h,us,vs,xs,ys,r,iD,jP,Bq,Bp,hr,w'=>by simp only[ID,aH] at h;subst h;have e1:xs.drop off=[]:=EW (by rw[<-Bq.1,iD];simp);have e2:ys.drop off=[]:=EW (by rw[<-Bp.1,jP];simp);rw[e1,e2] at hr;simp only[iL,aH] at hr;subst hr;simp[Op.eqFields]
 |f::fs,off,ks,h,us,vs,xs,ys,r,iD,jP,Bq,Bp,hr,w'=>by
  simp only[ID] at h;split at h
  case isFalse=>cases h
  case isTrue hf=>
  obtain⟨hname,Ox⟩:=hf;cases hg:sX P d f.type with
  |none=>rw[hg] at h;cases h
  |some k1=>
   rw[hg] at h;simp only[aZ] at h;split at h
   case isFalse=>cases h
   case isTrue hc=>
   cases hl:ID P (sX P d) (off+k1.length) fs with
   |none=>rw[hl] at h;cases h
   |some l=>
    rw[hl] at h;simp only[eB,aH] at h;subst h;simp only[kH] at iD jP;obtain⟨hone,td,htd⟩:=bC3 _ _ _ hg;have r8:(xs.drop off)=((xs.drop off).take k1.length)++xs.drop (off+k1.length):=by rw[<-m3,DZ]
    have FK:(ys.drop off)=((ys.drop off).take k1.length)++ys.drop (off+k1.length):=by rw[<-m3,DZ]
    have kV:((xs.drop off).take k1.length).length=k1.length:=by rw[gO,oW,<-Bq.1,iD];omega
    have yB:((ys.drop off).take k1.length).length=k1.length:=by rw[gO,oW,<-Bp.1,jP];omega
    rw[r8,FK,eP6 kV yB] at hr;cases he:iL k1 ((xs.drop off).take k1.length) ((ys.drop off).take k1.length) with
    |none=>rw[he] at hr;cases hr
    |some a=>
     rw[he] at hr;simp only[aZ] at hr;cases Cn:iL l (xs.drop (off+k1.length)) (ys.drop (off+k1.length)) with
     |none=>rw[Cn] at hr;cases hr
     |some b=>
      rw[Cn] at hr;simp only[eB,aH] at hr;have p1:=VR htd us f.offset (by rw[Ox,hc];omega) (fun ha=>by rw[hc,hone ha];exact dD _) w';have p2:=VR htd vs f.offset (by rw[Ox,hc];omega) (fun ha=>by rw[hc,hone ha];exact dD _) w';rw[Ox,hc] at p1 p2;have q:=hd f.type k1 hg ((us.drop off).take k1.length) ((vs.drop off).take k1.length) _ _ a (by rw[gO,oW,iD];omega) (by rw[gO,oW,jP];omega)
       ((Bq.drop off).take _) ((Bp.drop off).take _) he w'
      have ih:=bV1 hd fs (off+k1.length) l hl us vs xs ys b (by omega) (by omega) Bq Bp Cn w';simp only[Op.eqFields,hname,ne_eq,not_false_eq_true,jA,dX,Ox,p1,p2,dQ,q];subst hr;cases a;simp;simp[ih]
def bV0:∀(d:Nat) (t:TypeId) (ks:List Nat),sX P d t=some ks->∀(D:Nat),d<=D->∀(us vs:List Value) (xs ys:List V) (r:Bool),us.length=ks.length->vs.length=ks.length->aX S w us xs->aX S w vs ys->iL ks xs ys=some r->
  ∀w':World,(Op.equalIn D t (zU P t us) (zU P t vs)).run P w'= .ok r w'
 |0,_,_,h,_,_,_,_,_,_,_,_,_,_,_,_=>by simp[sX] at h
 |d+1,t,ks,h,D,hD,us,vs,xs,ys,r,iD,jP,Bq,Bp,hr=>by
  intro w';obtain⟨D,rfl⟩:∃k,D=k+1:=⟨D - 1,by omega⟩;have one:eJ P t=false->ks.length=1->∃u v x y,us=[u]/\vs=[v]/\xs=[x]/\ys=[y]/\aP S w u x/\aP S w v y/\zU P t us=u/\zU P t vs=v:=by
   intro ha hn;rw[hn] at iD jP
   match us,vs,xs,ys,iD,jP,Bq,Bp with|[u],[v],[x],[y],_,_,Bq,Bp=>exact⟨u,v,x,y,rfl,rfl,rfl,rfl,Bq.head,Bp.head,by simp[zU,ha],by simp[zU,ha]⟩|[u],[v],[],_,_,_,Bq,_=>exact absurd Bq.1 (by simp)|[u],[v],_::_::_,_,_,_,Bq,_=>exact absurd Bq.1 (by simp)|[u],[v],[x],[],_,_,_,Bp=>exact absurd Bp.1 (by simp)|[u],[v],[x],_::_::_,_,_,_,Bp=>exact absurd Bp.1 (by simp)
  have hsc:=bC3 _ _ _ h;unfold sX at h;split at h;all_goals(rename_i hu)
  have ha:eJ P t=false:=by simp[eJ,hu]
  obtain⟨u,v,x,y,rfl,rfl,rfl,rfl,h1,h2,e1,e2⟩:=one ha (hsc.1 ha);cases h;rw[e1,e2];cases x<;>cases y<;>simp only[iL,reduceCtorEq,eB,aH] at hr;cases h1;cases h2;rw[run_equalIn_bool _ _ _ _ _ hu];subst hr;simp;have ha:eJ P t=false:=by simp[eJ,hu]
  obtain⟨u,v,x,y,rfl,rfl,rfl,rfl,h1,h2,e1,e2⟩:=one ha (hsc.1 ha);cases h;rw[e1,e2];cases x<;>cases y<;>simp only[iL,reduceCtorEq,eB] at hr;split at hr;rename_i hk;subst hk;cases h1;cases h2;cases hr;rw[run_equalIn_int _ _ _ _ _ _ _ hu];simp;rfl;cases hr;have ha:eJ P t=false:=by simp[eJ,hu]
  obtain⟨u,v,x,y,rfl,rfl,rfl,rfl,h1,h2,e1,e2⟩:=one ha (hsc.1 ha);cases h;rw[e1,e2];cases x<;>cases y<;>simp only[iL,reduceCtorEq,eB,aH] at hr;cases h1;cases h2;rename_i p q;have hd:(p.data==q.data)=decide (p.data=q.data):=LA.2 (by simp);rw[run_equalIn_string _ _ _ _ _ hu];subst hr;simp[ByteArray.toList_eq,hd];split at h;cases h;rename_i fs aC;have ha:eJ P t=true:=by simp[eJ,hu]
  have hf:P.fieldsOf t=fs:=by simp[Program.fieldsOf,hu]
  simp only[zU,ha,jA];rw[run_equalIn_struct w' D t _ _ (by rw[hf];exact hu) (by simpa using aC),hf];exact bV1 (d:=d) (D:=D) (fun t ks hs us vs xs ys r h1 h2 h3 h4 h5 w'=>bV0 d t ks hs D (by omega) us vs xs ys r h1 h2 h3 h4 h5 w') fs.toList 0 ks h us vs xs ys r (by simpa using iD) (by simpa using jP) Bq Bp (by simpa using hr) w';cases h
def bC2:∀(d:Nat) (t:TypeId) (ks:List Nat),sX P d t=some ks->∀D,d<=D->P.eqGuardType D t=false
 |0,_,_,h,_,_=>by simp[sX] at h
 |d+1,t,ks,h,D,hD=>by
  obtain⟨D,rfl⟩:∃k,D=k+1:=⟨D - 1,by omega⟩;unfold sX at h;unfold Program.eqGuardType;split at h;all_goals(rename_i hu;try rw[hu])
  split at h;cases h;rename_i fs _;simp only[Array.any_eq_false'];have key:∀(l:List Field) (off:Nat) (ks:List Nat),ID P (sX P d) off l=some ks->∀f∈l,P.eqGuardType D f.type=false:=by
   intro l;induction l with
   |nil=>intro _ _ _ f hf;cases hf
   |cons g l ih=>
    intro off ks hs f hf;simp only[ID] at hs;split at hs;cases hg:sX P d g.type with
    |none=>rw[hg] at hs;cases hs
    |some k1=>
     rw[hg] at hs;simp only[aZ] at hs;split at hs;cases hl:ID P (sX P d) (off+k1.length) l with|none=>rw[hl] at hs;cases hs|some l'=>rcases eP.1 hf with rfl|hf;exact bC2 d _ _ hg D (by omega);exact ih _ _ hl f hf
     cases hs
    cases hs
  intro f hf;simp[key fs.toList 0 ks h f (by simpa using hf)];cases h
def bU9 {t:TypeId}{ks:List Nat}(h:sX P 12 t=some ks){fs:Array Field}(hu:P.underlying t=some (.struct fs))(neg:Bool)(x y:Operand)(a b:Value)(xs ys:List V)(r:Bool)
  (h1:aP S w a (.a xs))(h2:aP S w b (.a ys))(hr:iL ks xs ys=some r)(hl:xs.length=ks.length/\ys.length=ks.length):
  ∀w':World,(do eqGuard (if neg then .neq else .eql) t x y a b;binOp (if neg then .neq else .eql) t a b:Sem Value).run P w'= .ok (.bool (if neg then !r else r)) w':=by
 obtain⟨us,rfl,_,iD⟩:=h1.agg;obtain⟨vs,rfl,_,jP⟩:=h2.agg;intro w';have ha:eJ P t=true:=by simp[eJ,hu]
 have e:=bV0 12 t ks h 10000 (by omega) us vs xs ys r (by rw[iD.1,hl.1]) (by rw[jP.1,hl.2]) iD jP hr w';simp only[zU,ha,jA] at e;have hg:P.eqGuardType P.depth t=false:=bC2 12 t ks h _ (by unfold Program.depth Made.depth;omega);cases neg;simp only[qW,mW,dX,run_eqGuard_agg _ _ _ _ _ _ _ hg,dQ,run_eql_struct,e];simp only[jA,dX,run_eqGuard_agg _ _ _ _ _ _ _ hg,dQ,run_neq_struct,e]
def Rp:∀{ks:List Nat} {xs ys:List V} {r:Bool},iL ks xs ys=some r->xs.length=ks.length/\ys.length=ks.length
 |[],[],[],_,_=>⟨rfl,rfl⟩|[],_::_,_,_,h=>by simp[iL] at h|[],[],_::_,_,h=>by simp[iL] at h|k::ks,[],_,_,h=>by simp[iL] at h|k::ks,x::xs,[],_,h=>by cases x<;>simp[iL] at h
 |k::ks,x::xs,y::ys,r,h=>by
  have key:∀(o:Option Bool) (f:Bool->Bool),o.map f=some r->∃a,o=some a:=fun o f h=>by cases o with|none=>cases h|some a=>exact⟨a,rfl⟩
  match k with
  |0=>cases x<;>cases y<;>simp only[iL,reduceCtorEq] at h;obtain⟨a,ha⟩:=key _ _ h;have:=Rp ha;simp[this.1,this.2]
  |1=>cases x<;>cases y<;>simp only[iL,reduceCtorEq] at h;split at h<;>(try cases h);obtain⟨a,ha⟩:=key _ _ h;have:=Rp ha;simp[this.1,this.2]
  |2=>cases x<;>cases y<;>simp only[iL,reduceCtorEq] at h;obtain⟨a,ha⟩:=key _ _ h;have:=Rp ha;simp[this.1,this.2]
  |k+3=>simp[iL] at h
end
end Go.VM
namespace Go.VM
open Go.RowKit
section
variable {P:Program} {S:Nat->Prop} {w:World}
def cH6 (op:UnOp)(a:Value)(v1 v:V)(h1:aP S w a v1)(hv:H5 op v1=some v):∃u,aP S w u v/\∀w':World,(Op.unary op a).run P w'= .ok u w':=by cases v1 with|i k m=>cases h1;cases op<;>simp only[H5,reduceCtorEq,aH] at hv;all_goals(subst hv;exact⟨_,.i _ _,fun w'=>by simp[Op.unary,Op.intArith,Op.intBits,wX]⟩)|b m=>cases h1;cases op<;>simp only[H5,reduceCtorEq,aH] at hv;subst hv;exact⟨_,.b _,fun w'=>by simp[Op.unary]⟩|_=>simp[H5] at hv
def Hy {cs r:List V}{off n:Nat}(h:sub cs off n=some r):off+n<=cs.length/\r=(cs.drop off).take n:=by unfold sub at h;split at h;cases h;exact⟨‹_›,rfl⟩;cases h
def aX.sub {vs:List Value}{cs r:List V}{off n:Nat}(h:aX S w vs cs)(hs:sub cs off n=some r):aX S w ((vs.drop off).take n) r:=by obtain⟨_,rfl⟩:=Hy hs;exact(h.drop off).take n
def eI7 {t:TypeId}{fs:Array Field}{i:Nat}{f:Field}(hu:P.underlying t=some (.struct fs))(hf:fs[i]? =some f)(cR:((P.underlying f.type).isSome&&(eJ P f.type||P.cellsOf f.type==1))=true)
  (a:Value)(cs r:List V)(v:V)(h1:aP S w a (.a cs))(hs:sub cs f.offset (P.cellsOf f.type)=some r)(hv:(if eJ P f.type=true then some (V.a r) else r[0]?)=some v):
  ∃u,aP S w u v/\∀w':World,(Instr.field t a i).run P w'= .ok u w':=by
 obtain⟨us,rfl,hc,hr⟩:=h1.agg;obtain⟨wP,rfl⟩:=Hy hs;have nC:=hr.sub hs;simp only[fA,tK,pM] at cR;obtain⟨fM,cJ⟩:=cR;obtain⟨d,hd⟩:=E1.1 fM;have hp:=VR hd us f.offset (by rw[hr.1];exact wP) (fun ha=>by
  have:P.cellsOf f.type=1:=cJ.resolve_left (by rw[ha];simp);omega)
 refine⟨zU P f.type ((us.drop f.offset).take (P.cellsOf f.type)),?_,fun w'=> ?_⟩;unfold zU;cases ha:eJ P f.type with
 |true=>rw[ha] at hv;simp only[jA,aH] at hv⊢;subst hv;exact aP.mk_agg (fun x hx=>hc x (qX (qF hx))) nC
 |false=>
  rw[ha] at hv;simp only[qW,mW] at hv⊢;obtain⟨u,cP,pD⟩:=nC.getD hv;have:List.headD ((us.drop f.offset).take (P.cellsOf f.type)) undef=u:=by revert cP;cases((us.drop f.offset).take (P.cellsOf f.type))<;>simp
  rw[this];exact pD
 simp only[Instr.field,dX,eE hu,dQ,hf,asAgg,eU];exact hp w'
def eH0 {t:TypeId}(hu:P.underlying t=some .string)(a b:Value)(x:List UInt8)(k:IntKind)(n:Int)(c:UInt8)(h1:aP S w a (.s x))(h2:aP S w b (.i k n))(h0:0<=n)(hc:x[n.toNat]? =some c):
  ∃u,aP S w u (.i .u8 c.toNat)/\∀w':World,(Instr.index t a b).run P w'= .ok u w':=by
 cases h1;cases h2;rename_i s;refine⟨_,.i _ _,fun w'=> ?_⟩;have hs:s[n.toNat]? =some c:=by rw[vQ] at hc;have bE:n.toNat<s.data.size:=(j6.1 hc).1;have Ck:n.toNat<s.size:=bE;rw[getElem?_pos s n.toNat Ck];have:=(j6.1 hc).2;exact jV some this
 simp[Instr.index,asIntOf,eE hu,h0,hs]
def bO3 {t e:TypeId}(hu:P.underlying t=some (.slice e))(he:(P.underlying e).isSome=true)(a b:Value)(es:List V)(k:IntKind)(n:Int)(x:V)(h1:aP S w a (.l es))(h2:aP S w b (.i k n))
  (h0:0<=n)(hx:es[n.toNat]? =some x)(hl:x.cells.length=P.cellsOf e):∃u,aP S w u (.r x.cells)/\∀w':World,(Instr.indexAt t a b).run P w'= .ok u w':=by
 obtain⟨ad,c,k',vs,rfl,hk,dG,hr,hc,hd⟩:=h1.slice;cases h2;have bE:n.toNat<es.length:=(fE.1 hx).1;have gD:k'=P.cellsOf e:=by rw[<-hl];exact(hk x (k6 hx)).symm
 subst gD;rcases hd with rfl|⟨ad,rfl,hs,cP⟩;simp at bE;obtain⟨d,hd⟩:=E1.1 he;refine⟨.pointer (some (ad.add (n.toNat*P.cellsOf e))),.r _ _ ((vs.drop (n.toNat*P.cellsOf e)).take (P.cellsOf e)) (by rw[wZ];exact hs) ?_ ?_ ?_ ?_,fun w'=> ?_⟩;intro y hy;exact dG y (sM.2 ⟨x,k6 hx,hy⟩);rw[<-KS hk hx,gO,oW,gO,oW,hr.1];intro j u hj;rw[qE] at hj;split at hj;rw[xD] at hj;rw[EQ];exact cP _ u hj;cases hj;intro j u y hj hy;rw[<-KS hk hx] at hy;exact((hr.drop _).take _).2 j u y hj hy;have:n<(es.length:Int):=by omega
 have h48:(Instr.indexAt t (.slice (some ad) es.length c) (.int k n)).run P w'= .ok (.pointer (some (ad.add (n.toNat*P.cellsOf e)))) w':=by simp[Instr.indexAt,asIntOf,eE hu,h0,this,H' hd]
 exact h48
def bU2 {t:TypeId}{fs:Array Field}{i:Nat}{f:Field}(hu:P.underlying t=some (.struct fs))(hf:fs[i]? =some f)(lE:0<P.cellsOf f.type)
  (a:Value)(cs r:List V)(h1:aP S w a (.r cs))(hs:sub cs f.offset (P.cellsOf f.type)=some r):
  ∃u,aP S w u (.r r)/\∀w':World,(Instr.fieldAt t a i).run P w'= .ok u w':=by
 obtain⟨ad,vs,rfl,hS,hc,hr,dG⟩:=h1.ptr;have nC:=hr.sub hs;obtain⟨wP,rfl⟩:=Hy hs;obtain⟨i0,wQ⟩:∃i0,P.info? f.type=some i0:=by unfold Program.cellsOf at lE;cases h:P.info? f.type with|none=>rw[h] at lE;simp at lE|some i0=>exact⟨i0,rfl⟩
 refine⟨.pointer (some (ad.add f.offset)),.r _ _ _ (by rw[wZ];exact hS) (fun x hx=>hc x (qX (qF hx))) nC.1 (fun j u hj=> ?_) nC.2,fun w'=> ?_⟩;rw[qE] at hj;split at hj;rw[xD] at hj;rw[EQ];exact dG _ u hj;cases hj;have bM:P.cellsOf f.type≠0:=by omega
 simp[Instr.fieldAt,eE hu,hf,Instr.sureAddr,fieldPlace,run_sizeOf w' wQ,bM]
def dK4 {t e:TypeId}{len:Nat}(hu:P.underlying t=some (.array len e))(he:(P.underlying e).isSome=true)(a b:Value)(cs r:List V)(k:IntKind)(n:Int)(h1:aP S w a (.r cs))(h2:aP S w b (.i k n))
  (h0:0<=n)(hn:n<(len:Int))(hs:sub cs (n.toNat*P.cellsOf e) (P.cellsOf e)=some r):∃u,aP S w u (.r r)/\∀w':World,(Instr.indexAt t a b).run P w'= .ok u w':=by
 obtain⟨ad,vs,rfl,hS,hc,hr,dG⟩:=h1.ptr;have nC:=hr.sub hs;obtain⟨wP,rfl⟩:=Hy hs;cases h2;obtain⟨d,hd⟩:=E1.1 he;refine⟨.pointer (some (ad.add (n.toNat*P.cellsOf e))),.r _ _ _ (by rw[wZ];exact hS) (fun x hx=>hc x (qX (qF hx))) nC.1 (fun j u hj=> ?_) nC.2,fun w'=> ?_⟩;rw[qE] at hj;split at hj;rw[xD] at hj;rw[EQ];exact dG _ u hj;cases hj;simp[Instr.indexAt,asIntOf,eE hu,h0,hn,H' hd,Instr.sureAddr]
def fC0 {t e:TypeId}{len:Nat}(hu:P.underlying t=some (.array len e))(cR:((P.underlying e).isSome&&(eJ P e||P.cellsOf e==1))=true)
  (a b:Value)(cs r:List V)(k:IntKind)(n:Int)(v:V)(h1:aP S w a (.a cs))(h2:aP S w b (.i k n))(h0:0<=n)(hn:n<(len:Int))(hs:sub cs (n.toNat*P.cellsOf e) (P.cellsOf e)=some r)(hv:(if eJ P e=true then some (V.a r) else r[0]?)=some v):
  ∃u,aP S w u v/\∀w':World,(Instr.index t a b).run P w'= .ok u w':=by
 obtain⟨us,rfl,hc,hr⟩:=h1.agg;have nC:=hr.sub hs;obtain⟨wP,rfl⟩:=Hy hs;cases h2;simp only[fA,tK,pM] at cR;obtain⟨fM,cJ⟩:=cR;obtain⟨d,hd⟩:=E1.1 fM;have hp:=VR hd us (n.toNat*P.cellsOf e) (by rw[hr.1];exact wP) (fun ha=>by
  have:P.cellsOf e=1:=cJ.resolve_left (by rw[ha];simp);omega)
 refine⟨zU P e ((us.drop (n.toNat*P.cellsOf e)).take (P.cellsOf e)),?_,fun w'=> ?_⟩;unfold zU;cases ha:eJ P e with
 |true=>rw[ha] at hv;simp only[jA,aH] at hv⊢;subst hv;exact aP.mk_agg (fun x hx=>hc x (qX (qF hx))) nC
 |false=>
  rw[ha] at hv;simp only[qW,mW] at hv⊢;obtain⟨u,cP,pD⟩:=nC.getD hv;have:List.headD ((us.drop (n.toNat*P.cellsOf e)).take (P.cellsOf e)) undef=u:=by revert cP;cases((us.drop (n.toNat*P.cellsOf e)).take (P.cellsOf e))<;>simp
  rw[this];exact pD
 have:=hp w';simp[Instr.index,asIntOf,eE hu,h0,hn,H' hd,this]
def bM2 {t:TypeId}(cR:((P.underlying t).isSome&&(eJ P t||P.cellsOf t==1))=true)(a:Value)(cs:List V)(v:V)(h1:aP S w a (.r cs))(hl:cs.length=P.cellsOf t)
  (hv:(if eJ P t=true then some (V.a cs) else cs[0]?)=some v):∃u,aP S w u v/\∀w':World,(∀p:Addr,S p.block->w'.cell? p=w.cell? p)->(Instr.loadAt t a).run P w'= .ok u w':=by
 obtain⟨ad,vs,rfl,hS,hc,hr,dG⟩:=h1.ptr;simp only[fA,tK,pM] at cR;obtain⟨fM,cJ⟩:=cR;obtain⟨d,hd⟩:=E1.1 fM;cases ha:eJ P t with
 |true=>rw[ha] at hv;simp only[jA,aH] at hv;subst hv;refine⟨.agg vs.toArray,aP.mk_agg hc hr,fun w' hw=> ?_⟩;have hL:(loadCells ad vs.length).run P w'= .ok vs.toArray w':=Nd w' ad vs fun j u hj=>(hw _ (by rw[wZ];exact hS)).trans (dG j u hj);simp only[Instr.loadAt,Instr.sureAddr,dX,eU,dQ,loadVar,tH hd,ha,jA,H' hd,<-hl,<-hr.1,hL]
 |false=>
  rw[ha] at hv;simp only[qW,mW] at hv;obtain⟨u,cP,pD⟩:=hr.getD hv;refine⟨u,pD,fun w' hw=> ?_⟩;have h0:w'.cell? ad=some u:=by have:=(hw (ad.add 0) (by rw[wZ];exact hS)).trans (dG 0 u cP);simpa[Addr.add] using this
  simp only[Instr.loadAt,Instr.sureAddr,dX,eU,dQ,loadVar,tH hd,ha,qW,mW];rw[run_load];simp[h0]
def bZ9 {n c:Nat}(hc:n<=c)(isS:Bool)(lo hi:Option Value)(bs:List V)(p:Nat×Nat)(hr:aX S w (lo.toList++hi.toList) bs)(hb:pK n lo.isSome hi.isSome bs=some p):
  p.1<=p.2/\p.2<=n/\∀w':World,(Instr.sliceBounds isS n c lo hi none).run P w'= .ok (p.1,p.2,c) w':=by
 cases lo with
 |none=>
  cases hi with
  |none=>
   match bs,hr with|[],_=>simp only[pK,Nb,aH] at hb;subst hb;exact⟨A6 _,dD _,fun w'=>by simp[Instr.sliceBounds]⟩|_::_,hr=>exact absurd hr.1 (by simp)
  |some h=>
   match bs,hr with|[],hr=>exact absurd hr.1 (by simp)|[b],hr=>have yF:=hr.head;cases b<;>simp only[pK,Nb,QN,reduceCtorEq] at hb;split at hb;rename_i k m hm;cases hb;cases yF;refine⟨A6 _,by show m.toNat<=n;omega,fun w'=> ?_⟩;simp[Instr.sliceBounds,Instr.sliceBound,asIntOf,hm.1,(by omega:m<=(c:Int))];cases hb|_::_::_,hr=>exact absurd hr.1 (by simp)
 |some l=>
  cases hi with
  |none=>
   match bs,hr with|[],hr=>exact absurd hr.1 (by simp)|[b],hr=>have yF:=hr.head;cases b<;>simp only[pK,Nb,QN,reduceCtorEq] at hb;split at hb;rename_i k m hm;cases hb;cases yF;refine⟨by show m.toNat<=n;omega,dD _,fun w'=> ?_⟩;simp[Instr.sliceBounds,Instr.sliceBound,asIntOf,hm.1,hm.2];cases hb|_::_::_,hr=>exact absurd hr.1 (by simp)
  |some h=>
   match bs,hr with|[],hr=>exact absurd hr.1 (by simp)|[_],hr=>exact absurd hr.1 (by simp)|[b,b'],hr=>have yF:=hr.head;have EI:=hr.tail.head;cases b<;>cases b'<;>simp only[pK,QN,reduceCtorEq] at hb;split at hb;rename_i k m k' m' hm;cases hb;cases yF;cases EI;have e':((m'.toNat:Nat):Int)=m':=X0 (by omega);refine⟨by show m.toNat<=m'.toNat;omega,by show m'.toNat<=n;omega,fun w'=> ?_⟩;simp[Instr.sliceBounds,Instr.sliceBound,asIntOf,hm.1,hm.2.1,(by omega:m'<=(c:Int)),(by omega:0<=m'),e'];cases hb|_::_::_::_,hr=>exact absurd hr.1 (by simp)
def dC8 {t:TypeId}(hu:P.underlying t=some .string)(lo hi:Option Value)(a:Value)(x:List UInt8)(bs:List V)(p:Nat×Nat)(h1:aP S w a (.s x))(hr:aX S w (lo.toList++hi.toList) bs)(hb:pK x.length lo.isSome hi.isSome bs=some p):
  ∃u,aP S w u (.s ((x.take p.2).drop p.1))/\∀w':World,(Instr.sliceAt t a lo hi none).run P w'= .ok u w':=by
 cases h1;rename_i s;obtain⟨h1,h2,h3⟩:=bZ9 (P:=P) (c:=s.size) (Nat.le_of_eq (by simp)) false lo hi bs p hr hb;have e:(s.extract p.1 p.2).data.toList=(s.data.toList.take p.2).drop p.1:=by simp[List.extract_eq_take_drop,List.drop_take]
 refine⟨.string (s.extract p.1 p.2),by rw[<-e];exact .s _,fun w'=> ?_⟩;have EL:=h3 w';rw[run_sliceAt_string _ _ _ _ _ _ hu];simp only[Instr.slice,dX,eE hu,dQ];simp only[tJ] at EL;have e2:s.data.size=s.size:=rfl;rw[e2] at EL;simp[EL]
def dD0 {t e:TypeId}(hu:P.underlying t=some (.slice e))(he:(P.underlying e).isSome=true)(lo hi:Option Value)(a:Value)(es:List V)(bs:List V)(p:Nat×Nat)(h1:aP S w a (.l es))(hk:es.all (fun x=>x.cells.length==P.cellsOf e)=true)
  (hr:aX S w (lo.toList++hi.toList) bs)(hb:pK es.length lo.isSome hi.isSome bs=some p):
  ∃u,aP S w u (.l ((es.take p.2).drop p.1))/\∀w':World,(Instr.sliceAt t a lo hi none).run P w'= .ok u w':=by
 obtain⟨ad,c,k',vs,rfl,_,dG,nC,hc,hd⟩:=h1.slice;have nQ:∀x∈es,x.cells.length=P.cellsOf e:=fun x hx=>by simpa using eM.1 hk x hx
 obtain⟨h1,h2,h3⟩:=bZ9 (P:=P) hc true lo hi bs p hr hb;obtain⟨d,gU⟩:=E1.1 he;have iR:P.elem t=e:=by simp[Program.elem,hu]
 have bT:((es.take p.2).drop p.1).length=p.2 - p.1:=by rw[oW,gO];omega
 refine⟨.slice (if c=p.1 then ad else ad.map (·.add (p.1*P.cellsOf e))) ((es.take p.2).drop p.1).length (c - p.1),?_,fun w'=> ?_⟩
 have iY:∀x∈(es.take p.2).drop p.1,x.cells.length=P.cellsOf e:=fun x hx=>nQ x (qF (qX hx));have fC:cL ((es.take p.2).drop p.1)=((cL es).take (p.2*P.cellsOf e)).drop (p.1*P.cellsOf e):=by rw[I8 _ nQ,KR _ (fun x hx=>nQ x (qF hx))]
 refine aP.mk_slice iY ?_ (vs:=(vs.take (p.2*P.cellsOf e)).drop (p.1*P.cellsOf e)) ?_ (by rw[bT];omega) ?_;rw[fC];exact fun x hx=>dG x (qF (qX hx));rw[fC];exact(nC.take _).drop _;by_cases hz:(es.take p.2).drop p.1=[];exact .inl hz;refine .inr ?_;have lE:0<p.2 - p.1:=by rw[<-bT];exact QF.2 hz
 have bM:c≠p.1:=by omega
 rcases hd with rfl|⟨ad,rfl,hs,cP⟩;simp at hz;refine⟨ad.add (p.1*P.cellsOf e),by simp[bM],by rw[wZ];exact hs,fun j u hj=> ?_⟩;rw[xD,qE] at hj;split at hj;rw[EQ];exact cP _ u hj;cases hj;rw[run_sliceAt_slice _ _ _ _ _ _ (by rw[iR];exact hu)];simp only[Instr.slice,dX,eE hu,dQ,h3 w',H' gU,eU,bT]
end
end Go.VM
namespace Go.VM
open Go.RowKit
section
variable {P:Program} {S:Nat->Prop} {w:World}
def bS6:∀(l:List Value) (k off:Nat) (cs:Array Value),off+k+l.length<=cs.size->∀j:Nat,((l.zipIdx k).foldl (fun cs (p:Value×Nat)=>cs.setIfInBounds (off+p.2) p.1) cs)[j]? =if off+k<=j/\j<off+k+l.length then l[j - (off+k)]? else cs[j]?
 |[],k,off,cs,_,j=>by simp;omega|v::l,k,off,cs,h,j=>by simp only[List.zipIdx_cons,uO];simp only[fY] at h;rw[bS6 l (k+1) off _ (by simp;omega) j,BT];by_cases h1:j=off+k;subst h1;rw[aK (by omega),aY rfl,aY (show off+k<cs.size by omega),aY (show off+k<=off+k/\off+k<off+k+(v::l).length from⟨by omega,by rw[fY];omega⟩)];simp;by_cases h2:off+(k+1)<=j/\j<off+(k+1)+l.length;rw[aY h2,aY ⟨by omega,by simp;omega⟩];obtain⟨m,rfl⟩:∃m,j=off+k+1+m:=⟨j - (off+k+1),by omega⟩;rw[show off+k+1+m - (off+(k+1))=m from by omega,show off+k+1+m - (off+k)=m+1 from by omega];simp;rw[aK h2,aK (fun e=>h1 e.symm),aK (by simp;omega)]
def bS4:∀(l:List Value) (k off:Nat) (cs:Array Value),((l.zipIdx k).foldl (fun cs (p:Value×Nat)=>cs.setIfInBounds (off+p.2) p.1) cs).size=cs.size
 |[],_,_,_=>rfl|v::l,k,off,cs=>by simp only[List.zipIdx_cons,uO];rw[bS4 l];simp
def bS5 (l:List Value)(off:Nat)(cs:Array Value)(h:off+l.length<=cs.size):
  ((l.zipIdx 0).foldl (fun cs (p:Value×Nat)=>cs.setIfInBounds (off+p.2) p.1) cs).toList=cs.toList.take off++l++cs.toList.drop (off+l.length):=by
 apply GO;intro j;rw[vQ,bS6 l 0 off cs (by simpa using h) j];simp only[EZ];by_cases h1:j<off;rw[aK (by omega),AZ,BU (by simp;omega),qE,aY h1,vQ];have hl:(cs.toList.take off).length=off:=by simp;omega
 rw[AZ,D6 (by omega),hl];by_cases h2:j<off+l.length;rw[aY ⟨by omega,h2⟩,BU (by omega)];rw[aK (by omega),D6 (by omega),xD,vQ];congr 1;omega
def aX.splice {us vs:List Value}{cs xs:List V}(h:aX S w us cs)(h':aX S w vs xs)(off:Nat):aX S w (us.take off++vs++us.drop (off+vs.length)) (splice cs off xs):=by unfold VM.splice;rw[h'.1];exact((h.take off).append h').append (h.drop _)
def YW {cs xs:List V}{off:Nat}(h:∀x∈cs,x.cell=true)(h':∀x∈xs,x.cell=true):∀x∈splice cs off xs,x.cell=true:=by unfold splice;intro x hx;simp only[iC] at hx;rcases hx with(hx|hx)|hx;exact h x (qF hx);exact h' x hx;exact h x (qX hx)
def dB9 {cs xs:List V}{off:Nat}(h:off+xs.length<=cs.length):(splice cs off xs).length=cs.length:=by simp[splice];omega
def aC0 {place:Nat->Option (Nat×Nat)}:∀(ps:List (Nat×Value)) (pl:List (Nat×Nat)) (xs:List V) (cells:Array Value) (z r:List V),(∀(j:Nat) p q,ps[j]? =some p->pl[j]? =some q->place p.1=some q)->aX S w (ps.map (·.2)) xs->aX S w cells.toList z->(∀x∈z,x.cell=true)->yM z pl xs=some r->
  ∃tG,Instr.fill place cells ps=some tG/\aX S w tG.toList r/\∀x∈r,x.cell=true
 |[],pl,xs,cells,z,r,_,hx,hz,hc,hb=>by have:xs=[]:=pL (by simpa using hx.1.symm);subst this;cases pl with|nil=>simp only[yM,aH] at hb;subst hb;exact⟨cells,rfl,hz,hc⟩|cons=>simp[yM] at hb
 |(i,v)::ps,pl,xs,cells,z,r,hp,hx,hz,hc,hb=>by
  match xs,pl,hx,hp,hb with
  |[],_,hx,_,_=>exact absurd hx.1 (by simp)|x::xs,[],_,_,hb=>simp[yM] at hb
  |x::xs,(off,sz)::pl,hx,hp,hb=>
   simp only[yM] at hb;split at hb;rename_i fN;have hv:=(hx.head).cells;have h1:=hp 0 (i,v) (off,sz) rfl rfl;have dA:v.cells.size=sz:=by rw[<-tJ,hv.1];exact fN.1
   have hzl:cells.size=z.length:=by rw[<-tJ];exact hz.1
   have Ov:=bS5 v.cells.toList off cells (by simp;omega);obtain⟨tG,hf,h2,h3⟩:=aC0 ps pl xs (v.cells.zipIdx.foldl (fun cs (c,j)=>cs.setIfInBounds (off+j) c) cells) (splice z off x.cells) r
    (fun j p q h h'=>hp (j+1) p q (by simpa using h) (by simpa using h')) (hx.tail) (by
     have e:(v.cells.zipIdx.foldl (fun cs (c,j)=>cs.setIfInBounds (off+j) c) cells)=((v.cells.toList.zipIdx 0).foldl (fun cs (p:Value×Nat)=>cs.setIfInBounds (off+p.2) p.1) cells):=by rw[<-Array.foldl_toList,Array.toList_zipIdx]
     rw[e,Ov];simpa using hz.splice hv off) (YW hc fun x hx=>eM.1 fN.2.2 x hx) hb
   refine⟨tG,?_,h2,h3⟩;unfold Instr.fill;simp only[h1];rw[aK (by simp[dA];omega)];exact hf;cases hb
def bI7 {v:Value}{x:V}(h:Eu v=some x):aP S w v x/\x.cell=true:=by unfold Eu at h;split at h<;>first |(cases h;first |exact⟨.b _,rfl⟩|exact⟨.i _ _,rfl⟩|exact⟨.s _,rfl⟩|exact⟨.l0 _ _,rfl⟩|exact⟨.nf,rfl⟩|exact⟨.np,rfl⟩|exact⟨.f _ #[] #[] [] [] rfl rfl (by simp) (by simp),rfl⟩)|cases h
def Oc:∀{l:List Value} {xs:List V},Dp l=some xs->aX S w l xs/\∀x∈xs,x.cell=true
 |[],xs,h=>by simp only[Dp,aH] at h;subst h;exact⟨aX.nil,by simp⟩|v::l,xs,h=>by simp only[Dp] at h;cases h1:Eu v with|none=>rw[h1] at h;cases h|some x=>rw[h1] at h;simp only[aZ] at h;cases h2:Dp l with|none=>rw[h2] at h;cases h|some r=>rw[h2] at h;simp only[aZ,aH] at h;subst h;obtain⟨r1,c1⟩:=bI7 (S:=S) (w:=w) h1;obtain⟨r2,c2⟩:=Oc h2;exact⟨aX.cons r1 r2,by simpa[c1] using c2⟩
def Jv {v:Value}{x:V}(h:pR v=some x):aP S w v x:=by
 unfold pR at h;split at h;rename_i cs;cases h1:Dp cs.toList with|none=>rw[h1] at h;cases h|some xs=>rw[h1] at h;simp only[eB,aH] at h;subst h;obtain⟨r,c⟩:=Oc (S:=S) (w:=w) h1;have:=aP.mk_agg c r;simpa using this
 exact(bI7 h).1
def bG8 {qs:List (Nat×Nat)}:∀{ps:List (Nat×Operand)} {l:List (Nat×Nat)},Jr qs ps=some l->l.length=ps.length/\∀(j:Nat) p q,ps[j]? =some p->l[j]? =some q->qs[p.1]? =some q
 |[],l,h=>by simp only[Jr,aH] at h;subst h;exact⟨rfl,by simp⟩|p::r,l,h=>by simp only[Jr] at h;cases h1:qs[p.1]? with|none=>rw[h1] at h;cases h|some q=>rw[h1] at h;simp only[aZ] at h;cases h2:Jr qs r with|none=>rw[h2] at h;cases h|some l'=>rw[h2] at h;simp only[aZ,aH] at h;subst h;obtain⟨h3,h4⟩:=bG8 h2;refine⟨by simp[h3],fun j p' q' hj jH=> ?_⟩;cases j with|zero=>simp at hj jH;subst hj;subst jH;exact h1|succ j=>exact h4 j p' q' (by simpa using hj) (by simpa using jH)
def eY9 {t:TypeId}{fs:Array Field}(hu:P.underlying t=some (.struct fs)){z:List V}(hz:sK P t=some z){qs:List (Nat×Nat)}(hq:VQ P fs=some qs)
  (ρ:Operand->Value)(parts:Array (Nat×Operand)){pl:List (Nat×Nat)}(hp:Jr qs parts.toList=some pl)(xs r:List V)
  (hr:aX S w (parts.toList.map fun p=>ρ p.2) xs)(hb:yM z pl xs=some r):
  ∃u,aP S w u (.a r)/\∀w':World,(Instr.build t (parts.map fun(i,x)=>(i,ρ x))).run P w'= .ok u w':=by
 unfold sK at hz;cases hi:P.info? t with
 |none=>rw[hi] at hz;cases hz
 |some it=>
  rw[hi] at hz;simp only[aZ] at hz;cases rZ:it.zero with
  |none=>rw[rZ] at hz;cases hz
  |some zv=>
   rw[rZ] at hz;simp only[aZ] at hz;obtain⟨r1,c1⟩:=Oc (S:=S) (w:=w) hz;obtain⟨_,hps⟩:=bG8 hp;obtain⟨tG,hf,h2,h3⟩:=aC0 (S:=S) (w:=w) (place:=(qs.toArray[·]?)) (parts.toList.map fun p=>(p.1,ρ p.2)) pl xs zv.cells z r
    (fun j p q hj jH=>by
     rw[kG] at hj;cases ho:parts.toList[j]? with
     |none=>rw[ho] at hj;cases hj
     |some p0=>
      rw[ho] at hj;simp only[eB,aH] at hj;subst hj;have:=hps j p0 q ho jH;simpa using this)
    (by simpa[DX,LC] using hr) r1 c1 hb
   refine⟨.agg tG,?_,fun w'=> ?_⟩;have:=aP.mk_agg h3 h2;simpa using this;refine run_build w' t _ tG ?_;unfold Program.built;unfold VQ at hq;simp only[hi,hu,rZ,hq];have e:(parts.map fun(i,x)=>(i,ρ x)).toList=parts.toList.map fun p=>(p.1,ρ p.2):=by simp
   rw[e];exact hf
def eY8 {t e:TypeId}{n:Nat}(hu:P.underlying t=some (.array n e)){z:List V}(hz:sK P t=some z){ie:TypeInfo}(EC:P.info? e=some ie)
  (ρ:Operand->Value)(parts:Array (Nat×Operand))(xs r:List V)
  (hr:aX S w (parts.toList.map fun p=>ρ p.2) xs)(hb:yM z (parts.toList.map fun p=>(p.1*ie.size,ie.size)) xs=some r):
  ∃u,aP S w u (.a r)/\∀w':World,(Instr.build t (parts.map fun(i,x)=>(i,ρ x))).run P w'= .ok u w':=by
 unfold sK at hz;cases hi:P.info? t with
 |none=>rw[hi] at hz;cases hz
 |some it=>
  rw[hi] at hz;simp only[aZ] at hz;cases rZ:it.zero with
  |none=>rw[rZ] at hz;cases hz
  |some zv=>
   rw[rZ] at hz;simp only[aZ] at hz;obtain⟨r1,c1⟩:=Oc (S:=S) (w:=w) hz;obtain⟨tG,hf,h2,h3⟩:=aC0 (S:=S) (w:=w) (place:=fun i=>some (i*ie.size,ie.size)) (parts.toList.map fun p=>(p.1,ρ p.2)) (parts.toList.map fun p=>(p.1*ie.size,ie.size)) xs zv.cells z r
    (fun j p q hj jH=>by
     rw[kG] at hj jH;cases ho:parts.toList[j]? with
     |none=>rw[ho] at hj;cases hj
     |some p0=>
      rw[ho] at hj jH;simp only[eB,aH] at hj jH;subst hj;subst jH;rfl)
    (by simpa[DX,LC] using hr) r1 c1 hb
   refine⟨.agg tG,?_,fun w'=> ?_⟩;have:=aP.mk_agg h3 h2;simpa using this;refine run_build w' t _ tG ?_;unfold Program.built;simp only[hi,hu,rZ,EC];have e:(parts.map fun(i,x)=>(i,ρ x)).toList=parts.toList.map fun p=>(p.1,ρ p.2):=by simp
   rw[e];exact hf
def bK7:∀(r:List Value) (v:Value) (xs:List V) (y:V),aX S w (v::r) xs->Ey xs=some y->∃u,aP S w u y/\∀w':World,(r.foldlM Builtin.max2 v).run P w'= .ok u w'
 |[],v,xs,y,hr,h=>by
  match xs,hr with|[],hr=>exact absurd hr.1 (by simp)|[x],hr=>cases x<;>simp only[Ey,Ok,reduceCtorEq,aH] at h;subst h;exact⟨v,hr.head,fun w'=>by simp⟩|_::_::_,hr=>exact absurd hr.1 (by simp)
 |u::r,v,xs,y,hr,h=>by
  match xs,hr with
  |[],hr=>exact absurd hr.1 (by simp)|[x],hr=>exact absurd hr.1 (by simp)
  |x::x'::xs,hr=>
   have h1:=hr.head;have h2:=hr.tail.head;have h3:=hr.tail.tail;cases x with
   |i k a=>
    cases x' with
    |i k' b=>rw[dT7] at h;split at h;cases h1;cases h2;obtain⟨u',cP,bY⟩:=bK7 r (.int k (if b>a then b else a)) (.i k (if b>a then b else a)::xs) y (aX.cons (.i _ _) h3) h;exact⟨u',cP,fun w'=>by simp only[List.foldlM_cons,dX,Builtin.max2,eU,dQ];exact bY w'⟩;cases h
    |_=>simp[Ey,Ok] at h
   |_=>simp[Ey] at h
def bK1:∀(r:List Value) (v:Value) (xs:List V) (y:V),aX S w (v::r) xs->Ew xs=some y->∃u,aP S w u y/\∀w':World,(r.foldlM Builtin.min2 v).run P w'= .ok u w'
 |[],v,xs,y,hr,h=>by
  match xs,hr with|[],hr=>exact absurd hr.1 (by simp)|[x],hr=>cases x<;>simp only[Ew,Oh,reduceCtorEq,aH] at h;subst h;exact⟨v,hr.head,fun w'=>by simp⟩|_::_::_,hr=>exact absurd hr.1 (by simp)
 |u::r,v,xs,y,hr,h=>by
  match xs,hr with
  |[],hr=>exact absurd hr.1 (by simp)|[x],hr=>exact absurd hr.1 (by simp)
  |x::x'::xs,hr=>
   have h1:=hr.head;have h2:=hr.tail.head;have h3:=hr.tail.tail;cases x with
   |i k a=>
    cases x' with
    |i k' b=>rw[dT3] at h;split at h;cases h1;cases h2;obtain⟨u',cP,bY⟩:=bK1 r (.int k (if b<a then b else a)) (.i k (if b<a then b else a)::xs) y (aX.cons (.i _ _) h3) h;exact⟨u',cP,fun w'=>by simp only[List.foldlM_cons,dX,Builtin.min2,eU,dQ];exact bY w'⟩;cases h
    |_=>simp[Ew,Oh] at h
   |_=>simp[Ew] at h
def dX9 {t e:TypeId}(hu:P.underlying t=some (.slice e))(v:Value)(es:List V)(h:aP S w v (.l es))(ty:TypeId):
  ∃u,aP S w u (.i .i64 es.length)/\∀w':World,(Builtin.len_ #[t] ty #[v]).run P w'= .ok u w':=by
 obtain⟨ad,c,k,vs,rfl,_⟩:=h.slice;exact⟨_,.i _ _,fun w'=>by simp[Builtin.len_,eE hu,goInt]⟩
def dC7 {t:TypeId}(hu:P.underlying t=some .string)(v:Value)(s:List UInt8)(h:aP S w v (.s s))(ty:TypeId):
  ∃u,aP S w u (.i .i64 s.length)/\∀w':World,(Builtin.len_ #[t] ty #[v]).run P w'= .ok u w':=by
 cases h;exact⟨_,.i _ _,fun w'=>by simp[Builtin.len_,eE hu,goInt]⟩
end
end Go.VM
namespace Go.VM
section
variable {o:aU} {vs:List V} {v:V}
def bP1 (h:aS o .mv vs=some v):∃x,vs=[x]/\v=x:=by
 match vs,h with|[x],h=>simp[aS] at h;exact⟨x,rfl,h.symm⟩|[],h=>simp[aS] at h|_::_::_,h=>simp[aS] at h
def bP4 {op:BinOp}(h:aS o (.bin op) vs=some v):∃x y,vs=[x,y]/\lQ op x y=some v:=by
 match vs,h with|[x,y],h=>exact⟨x,y,rfl,h⟩|[],h=>simp[aS] at h|[_],h=>simp[aS] at h|_::_::_::_,h=>simp[aS] at h
def eF5 {op:BinOp}(h:aS o (.binb op) vs=some v):∃x y,vs=[x,y]/\Kg op x y=some v:=by
 match vs,h with|[x,y],h=>exact⟨x,y,rfl,h⟩|[],h=>simp[aS] at h|[_],h=>simp[aS] at h|_::_::_::_,h=>simp[aS] at h
def eE2 {op:UnOp}(h:aS o (.un op) vs=some v):∃x,vs=[x]/\H5 op x=some v:=by
 match vs,h with|[x],h=>exact⟨x,rfl,h⟩|[],h=>simp[aS] at h|_::_::_,h=>simp[aS] at h
def bP2 {neg:Bool}{ks:List Nat}(h:aS o (.eqa neg ks) vs=some v):∃xs ys r,vs=[.a xs,.a ys]/\iL ks xs ys=some r/\v= .b (if neg then !r else r):=by
 match vs,h with
 |[],h=>simp[aS] at h|[_],h=>simp[aS] at h|_::_::_::_,h=>simp[aS] at h
 |[x,y],h=>cases x<;>cases y<;>simp only[aS,reduceCtorEq] at h;rename_i xs ys;cases hr:iL ks xs ys with|none=>rw[hr] at h;cases h|some r=>rw[hr] at h;exact⟨xs,ys,r,rfl,hr,by simpa using h.symm⟩
def eE3 (h:aS o .slen vs=some v):∃s,vs=[.s s]/\v= .i .i64 s.length:=by
 match vs,h with|[],h=>simp[aS] at h|_::_::_,h=>simp[aS] at h|[x],h=>cases x<;>simp only[aS,reduceCtorEq] at h;rename_i s;cases h;exact⟨s,rfl,rfl⟩
def eE8 (h:aS o .len vs=some v):∃es,vs=[.l es]/\v= .i .i64 es.length:=by
 match vs,h with|[],h=>simp[aS] at h|_::_::_,h=>simp[aS] at h|[x],h=>cases x<;>simp only[aS,reduceCtorEq] at h;rename_i es;cases h;exact⟨es,rfl,rfl⟩
def eF1 {off n:Nat}{ag:Bool}(h:aS o (.fld off n ag) vs=some v):∃cs r,vs=[.a cs]/\sub cs off n=some r/\(if ag=true then some (V.a r) else r[0]?)=some v:=by
 match vs,h with
 |[],h=>simp[aS] at h|_::_::_,h=>simp[aS] at h
 |[x],h=>cases x<;>simp only[aS,reduceCtorEq] at h;rename_i cs;cases hs:sub cs off n with|none=>rw[hs] at h;cases h|some r=>rw[hs] at h;exact⟨cs,r,rfl,hs,h⟩
def eF2 {off n:Nat}(h:aS o (.fa off n) vs=some v):∃cs r,vs=[.r cs]/\sub cs off n=some r/\v= .r r:=by
 match vs,h with
 |[],h=>simp[aS] at h|_::_::_,h=>simp[aS] at h
 |[x],h=>cases x<;>simp only[aS,reduceCtorEq] at h;rename_i cs;cases hs:sub cs off n with|none=>rw[hs] at h;cases h|some r=>rw[hs] at h;exact⟨cs,r,rfl,hs,by simpa using h.symm⟩
def Zv {n:Nat}{ag:Bool}(h:aS o (.ld n ag) vs=some v):∃cs,vs=[.r cs]/\cs.length=n/\(if ag=true then some (V.a cs) else cs[0]?)=some v:=by
 match vs,h with|[],h=>simp[aS] at h|_::_::_,h=>simp[aS] at h|[x],h=>cases x<;>simp only[aS,reduceCtorEq] at h;rename_i cs;split at h;exact⟨cs,rfl,‹_›,h⟩;cases h
def eF4 {k:IntKind}(h:aS o (.cnv k) vs=some v):∃k0 m,vs=[.i k0 m]/\v= .i k (k.wrap m):=by
 match vs,h with|[],h=>simp[aS] at h|_::_::_,h=>simp[aS] at h|[x],h=>cases x<;>simp only[aS,reduceCtorEq] at h;rename_i k0 m;cases h;exact⟨k0,m,rfl,rfl⟩
def eF6 (h:aS o .b2s vs=some v):∃es l,vs=[.l es]/\Is es=some l/\v= .s l:=by
 match vs,h with|[],h=>simp[aS] at h|_::_::_,h=>simp[aS] at h|[x],h=>cases x<;>simp only[aS,reduceCtorEq] at h;rename_i es;simp only[gY] at h;obtain⟨l,h1,h2⟩:=h;exact⟨es,l,rfl,h1,h2.symm⟩
def bZ1:∀{es:List V} {l:List UInt8},Is es=some l->∃ns:List Int,es=ns.map (V.i .u8)/\l=ns.map fun n=>UInt8.ofNat n.toNat
 |[],l,h=>by simp only[Is,aH] at h;exact⟨[],rfl,h.symm⟩|x::es,l,h=>by unfold Is at h;split at h;rename_i he;cases he;rename_i n r he;cases he;simp only[gY] at h;obtain⟨t,h1,h2⟩:=h;obtain⟨ns,rfl,rfl⟩:=bZ1 h1;exact⟨n::ns,rfl,h2.symm⟩;cases h
def eF3 {i:Nat}(h:aS o (.ext i) vs=some v):∃ys,vs=[.t ys]/\ys[i]? =some v:=by
 match vs,h with|[],h=>simp[aS] at h|_::_::_,h=>simp[aS] at h|[x],h=>cases x<;>simp only[aS,reduceCtorEq] at h;rename_i ys;exact⟨ys,rfl,h⟩
def eF7 {len k:Nat}{ag:Bool}(h:aS o (.aix len k ag) vs=some v):∃cs kk n r,vs=[.a cs,.i kk n]/\0<=n/\n<(len:Int)/\sub cs (n.toNat*k) k=some r/\(if ag=true then some (V.a r) else r[0]?)=some v:=by
 match vs,h with
 |[],h=>simp[aS] at h|[_],h=>simp[aS] at h|_::_::_::_,h=>simp[aS] at h
 |[x,y],h=>
  cases x<;>try(simp[aS] at h;done)
  cases y<;>try(simp[aS] at h;done)
  simp only[aS] at h;split at h;rename_i hn;obtain⟨r,h1,h2⟩:=bL.1 h;exact⟨_,_,_,r,rfl,hn.1,hn.2,h1,h2⟩;cases h
def eE5 {len k:Nat}(h:aS o (.pix len k) vs=some v):∃cs kk n r,vs=[.r cs,.i kk n]/\0<=n/\n<(len:Int)/\sub cs (n.toNat*k) k=some r/\v= .r r:=by
 match vs,h with
 |[],h=>simp[aS] at h|[_],h=>simp[aS] at h|_::_::_::_,h=>simp[aS] at h
 |[x,y],h=>
  cases x<;>try(simp[aS] at h;done)
  cases y<;>try(simp[aS] at h;done)
  simp only[aS] at h;split at h;rename_i hn;obtain⟨r,h1,h2⟩:=gY.1 h;exact⟨_,_,_,r,rfl,hn.1,hn.2,h1,h2.symm⟩;cases h
def eF0 (h:aS o .idx vs=some v):∃s k n c,vs=[.s s,.i k n]/\0<=n/\s[n.toNat]? =some c/\v= .i .u8 c.toNat:=by
 match vs,h with
 |[],h=>simp[aS] at h|[x],h=>cases x<;>simp[aS] at h|x::_::_::_,h=>cases x<;>simp[aS] at h
 |[x,y],h=>
  cases x<;>cases y<;>simp only[aS,reduceCtorEq] at h;rename_i s k n;split at h;cases hc:s[n.toNat]? with|none=>rw[hc] at h;cases h|some c=>rw[hc] at h;exact⟨s,k,n,c,rfl,‹_›,hc,by simpa using h.symm⟩
  cases h
def eE9 {k:Nat}(h:aS o (.ix k) vs=some v):∃es kk n e,vs=[.l es,.i kk n]/\0<=n/\es[n.toNat]? =some e/\e.cells.length=k/\v= .r e.cells:=by
 match vs,h with
 |[],h=>simp[aS] at h|[x],h=>cases x<;>simp[aS] at h|x::_::_::_,h=>cases x<;>simp[aS] at h
 |[x,y],h=>
  cases x<;>cases y<;>simp only[aS,reduceCtorEq] at h;rename_i es kk n;split at h;cases hc:es[n.toNat]? with|none=>rw[hc] at h;cases h|some e=>rw[hc] at h;simp only[aZ] at h;split at h;exact⟨es,kk,n,e,rfl,‹_›,hc,‹_›,by simpa using h.symm⟩;cases h
  cases h
def eE4 {lo hi:Bool}(h:aS o (.slcs lo hi) vs=some v):∃s bs p,vs= .s s::bs/\pK s.length lo hi bs=some p/\v= .s ((s.take p.2).drop p.1):=by
 match vs,h with|[],h=>simp[aS] at h|x::bs,h=>cases x<;>simp only[aS,reduceCtorEq] at h;rename_i s;cases hb:pK s.length lo hi bs with|none=>rw[hb] at h;cases h|some p=>rw[hb] at h;exact⟨s,bs,p,rfl,hb,by simpa using h.symm⟩
def bP0 {k:Nat}{lo hi:Bool}(h:aS o (.slc k lo hi) vs=some v):∃es bs p,vs= .l es::bs/\es.all (fun x=>x.cells.length==k)=true/\pK es.length lo hi bs=some p/\v= .l ((es.take p.2).drop p.1):=by
 match vs,h with
 |[],h=>simp[aS] at h
 |x::bs,h=>
  cases x<;>simp only[aS,reduceCtorEq] at h;rename_i es;split at h;cases hb:pK es.length lo hi bs with|none=>rw[hb] at h;cases h|some p=>rw[hb] at h;exact⟨es,bs,p,rfl,‹_›,hb,by simpa using h.symm⟩
  cases h
def bP3 {z:List V}{ps:List (Nat×Nat)}(h:aS o (.bld z ps) vs=some v):∃r,yM z ps vs=some r/\v= .a r:=by
 have h':(yM z ps vs).map V.a=some v:=by
  match vs,h with|[],h=>simpa[aS] using h|[x],h=>cases x<;>simpa[aS] using h|[x,y],h=>cases x<;>cases y<;>simpa[aS] using h|x::y::_::_,h=>cases x<;>simpa[aS] using h
 cases hb:yM z ps vs with|none=>rw[hb] at h';cases h'|some r=>rw[hb] at h';exact⟨r,rfl,by simpa using h'.symm⟩
def eE6 (h:aS o .mx vs=some v):Ey vs=some v:=by
 match vs,h with|[],h=>simpa[aS] using h|[x],h=>cases x<;>simpa[aS] using h|[x,y],h=>cases x<;>cases y<;>simpa[aS] using h|x::y::_::_,h=>cases x<;>simpa[aS] using h
def eE7 (h:aS o .mn vs=some v):Ew vs=some v:=by
 match vs,h with|[],h=>simpa[aS] using h|[x],h=>cases x<;>simpa[aS] using h|[x,y],h=>cases x<;>cases y<;>simpa[aS] using h|x::y::_::_,h=>cases x<;>simpa[aS] using h
end
end Go.VM
namespace Go.VM
open Go.RowKit
variable [cB]
def jU.plain:jU->Bool
 | .call _ _| .callv _| .bsl _=>false|_=>true
section
variable {P:Program} {S:Nat->Prop} {w:World}
def Es {us:List Value}{x:V}(h:aX S w us [x]):∃u,us=[u]/\aP S w u x:=by
 match us,h with|[],h=>exact absurd h.1 (by simp)|[u],h=>exact⟨u,rfl,h.head⟩|_::_::_,h=>exact absurd h.1 (by simp)
def IG {us:List Value}{x y:V}(h:aX S w us [x,y]):∃u v,us=[u,v]/\aP S w u x/\aP S w v y:=by
 match us,h with|[],h=>exact absurd h.1 (by simp)|[_],h=>exact absurd h.1 (by simp)|[u,v],h=>exact⟨u,v,rfl,h.head,h.tail.head⟩|_::_::_::_,h=>exact absurd h.1 (by simp)
def T2 (P:Program)(S:Nat->Prop)(w:World)(s:Sem Next)(v:V):Prop:=
 ∃u,aP S w u v/\∀w':World,(∀p:Addr,S p.block->w'.cell? p=w.cell? p)->s.run P w'= .ok (.value u) w'
def bM6 {tys:Array TypeId}{us:Array Value}{t ty:TypeId}{a:Value}(ht:tys[0]? =some t)(ha:us[0]? =some a):Builtin.len_ tys ty us=Builtin.len_ #[t] ty #[a]:=by unfold Builtin.len_;simp only[ht,ha];rfl
def T2.of {s:Sem Value}{v:V}(h:∃u,aP S w u v/\∀w':World,s.run P w'= .ok u w'):T2 P S w (do pure (.value (<-s)):Sem Next) v:=by obtain⟨u,hu,hr⟩:=h;exact⟨u,hu,fun w' _=>by simp[hr w']⟩
def T2.of' {s:Sem Value}{v:V}(h:∃u,aP S w u v/\∀w':World,(∀p:Addr,S p.block->w'.cell? p=w.cell? p)->s.run P w'= .ok u w'):T2 P S w (do pure (.value (<-s)):Sem Next) v:=by obtain⟨u,hu,hr⟩:=h;exact⟨u,hu,fun w' hw=>by simp[hr w' hw]⟩
def eZ7 {u:Value}{es:List V}{l:List UInt8}(h:aP S w u (.l es))(hb:Is es=some l){s d e:TypeId}(hs:P.underlying s=some (.slice e))(hd:P.underlying d=some .string)(he:P.underlying e=some (.int .u8)):
  ∃b:ByteArray,b.data.toList=l/\∀w':World,(∀p:Addr,S p.block->w'.cell? p=w.cell? p)->(convert s d u).run P w'= .ok (.string b) w':=by
 obtain⟨ns,rfl,rfl⟩:=bZ1 hb;have hfold:∀(ns:List Int) (r:ByteArray),ns.foldl (fun r n=>r.push (UInt8.ofNat n.toNat)) r=⟨r.data++(ns.map fun n=>UInt8.ofNat n.toNat).toArray⟩:=by intro ns;induction ns with|nil=>intro r;simp|cons n ns ih=>intro r;rw[uO,ih];simp[ByteArray.push]
 have fC:∀ns:List Int,cL (ns.map (V.i .u8))=ns.map (V.i .u8):=by intro ns;induction ns with|nil=>rfl|cons n ns ih=>rw[fF,tC,ih];rfl
 generalize hz:V.l (ns.map (V.i .u8))=z at h;cases h<;>first |(cases hz;done)|skip
 rename_i a c;have hn:ns=[]:=by have:=V.l.inj hz;simpa using this
 subst hn;refine⟨ByteArray.empty,rfl,fun w' _=> ?_⟩;rw[run_convert_bytes_string w' s d e a 0 c hs he hd];cases a with|none=>rfl|some a=>exact run_bytesToString w' a 0 c [] (Nd (P:=P) w' a [] (fun j v hj=>by simp at hj))
 rename_i a c k bW vs hS hc hk h1 hl hu kN;have hn:ns.map (V.i .u8)=bW:=V.l.inj hz;subst hn;refine⟨⟨(ns.map fun n=>UInt8.ofNat n.toNat).toArray⟩,by simp,fun w' hw=> ?_⟩;rw[uP,run_convert_bytes_string w' s d e (some a) ns.length c hs he hd];rw[fC,uP] at hl;rw[fC] at kN;have jP:vs=ns.map (Value.int .u8):=by
  refine List.ext_getElem (by simpa using hl) fun j hj jH=> ?_;have hj2:j<ns.length:=by simpa using jH
  have:=kN j vs[j] (.i .u8 ns[j]) (eI hj) (by rw[kG,eI hj2];rfl);rw[List.getElem_map];generalize vs[j]=y at this;cases this;rfl
 have hload:=Nd (P:=P) w' a vs (fun j v hj=>by rw[hw (a.add j) (by rw[wZ];exact hS)];exact hu j v hj);rw[hl] at hload;rw[run_bytesToString w' a ns.length c ns (by rw[hload,jP])];rw[hfold];simp
def VJ {o:aU}{op:Op}{p:jU}{xs:List Operand}(h:wI P op=some (p,xs))(hp:p.plain=true)(ρ:Operand->Value)(oper:Oper)(aO:oper.op=op)(vs:List V)(v:V)
  (hr:aX S w (xs.map ρ) vs)(hv:aS o p vs=some v):T2 P S w (execOp ρ oper) v:=by
 unfold wI at h;split at h;simp only[aH,cM] at h;obtain⟨rfl,rfl⟩:=h;obtain⟨x,rfl,rfl⟩:=bP1 hv;obtain⟨u,hu,pD⟩:=Es hr;simp only[fF,oF,gG,jJ] at hu;subst hu;exact⟨_,pD,fun w' _=>by simp[execOp,aO]⟩;simp only[aH,cM] at h;obtain⟨rfl,rfl⟩:=h;obtain⟨x,rfl,rfl⟩:=bP1 hv;obtain⟨u,hu,pD⟩:=Es hr;simp only[fF,oF,gG,jJ] at hu;subst hu;exact⟨_,pD,fun w' _=>by simp[execOp,aO]⟩
 ·
  rename_i op t x y yt;have hx:execOp ρ oper=(do pure (.value (<-(do eqGuard op t x y (ρ x) (ρ y);binOp op t (ρ x) (ρ y):Sem Value))):Sem Next):=by simp only[execOp,aO]
  rw[hx];split at h;rename_i fs hu;cases hs:sX P 12 t with|none=>rw[hs] at h;cases h|some ks=>rw[hs] at h;simp only[eB,aH,cM] at h;obtain⟨rfl,rfl⟩:=h;obtain⟨as,bs,r,rfl,he,rfl⟩:=bP2 hv;obtain⟨a,b,fW,h1,h2⟩:=IG hr;simp only[fF,oF,gG,jJ] at fW;obtain⟨rfl,rfl⟩:=fW;exact .of ⟨_,.b _,bU9 hs hu false x y _ _ as bs r h1 h2 he (Rp he)⟩
  rename_i fs hu;cases hs:sX P 12 t with|none=>rw[hs] at h;cases h|some ks=>rw[hs] at h;simp only[eB,aH,cM] at h;obtain⟨rfl,rfl⟩:=h;obtain⟨as,bs,r,rfl,he,rfl⟩:=bP2 hv;obtain⟨a,b,fW,h1,h2⟩:=IG hr;simp only[fF,oF,gG,jJ] at fW;obtain⟨rfl,rfl⟩:=fW;exact .of ⟨_,.b _,bU9 hs hu true x y _ _ as bs r h1 h2 he (Rp he)⟩
  rename_i hu;simp only[aH,cM] at h;obtain⟨rfl,rfl⟩:=h;obtain⟨p,q,rfl,he⟩:=eF5 hv;obtain⟨a,b,fW,h1,h2⟩:=IG hr;simp only[fF,oF,gG,jJ] at fW;obtain⟨rfl,rfl⟩:=fW;exact .of (eZ2 _ t hu x y _ _ p q v h1 h2 he);simp only[aH,cM] at h;obtain⟨rfl,rfl⟩:=h;obtain⟨p,q,rfl,he⟩:=bP4 hv;obtain⟨a,b,fW,h1,h2⟩:=IG hr;simp only[fF,oF,gG,jJ] at fW;obtain⟨rfl,rfl⟩:=fW;exact .of (cA1 _ t x y _ _ p q v h1 h2 he);simp only[aH,cM] at h;obtain⟨rfl,rfl⟩:=h;obtain⟨p,q,rfl,he⟩:=bP4 hv;obtain⟨a,b,fW,h1,h2⟩:=IG hr;simp only[fF,oF,gG,jJ] at fW;obtain⟨rfl,rfl⟩:=fW;exact .of (cA1 _ t x y _ _ p q v h1 h2 he);cases h
 ·
  simp only[aH,cM] at h;obtain⟨rfl,rfl⟩:=h;rename_i op t x;obtain⟨p,rfl,he⟩:=eE2 hv;obtain⟨a,ha,h1⟩:=Es hr;simp only[fF,oF,gG,jJ] at ha;subst ha;have hx:execOp ρ oper=(do pure (.value (<-Op.unary op (ρ x))):Sem Next):=by simp only[execOp,aO]
  rw[hx];exact .of (cH6 op _ p v h1 he)
 ·
  rename_i s d x;split at h;rename_i k0 k hs hd;simp only[aH,cM] at h;obtain⟨rfl,rfl⟩:=h;obtain⟨k1,m,rfl,rfl⟩:=eF4 hv;obtain⟨a,ha,h1⟩:=Es hr;simp only[fF,oF,gG,jJ] at ha;subst ha;have hx:execOp ρ oper=(do pure (.value (<-convert s d (ρ x))):Sem Next):=by simp only[execOp,aO]
  rw[hx];refine .of ⟨_,.i _ _,fun w'=> ?_⟩;generalize ρ x=xv at h1;cases h1;simp[convert,eE hs,eE hd,Conv.intToInt];rename_i e hs hd;split at h;rename_i he;simp only[aH,cM] at h;obtain⟨rfl,rfl⟩:=h;obtain⟨es,l,rfl,hb,rfl⟩:=eF6 hv;obtain⟨a,ha,h1⟩:=Es hr;simp only[fF,oF,gG,jJ] at ha;subst ha;have hx:execOp ρ oper=(do pure (.value (<-convert s d (ρ x))):Sem Next):=by simp only[execOp,aO]
  rw[hx];obtain⟨b,hbr,bY⟩:=eZ7 h1 hb hs hd he;exact .of' ⟨.string b,hbr▸ .s b,bY⟩;cases h;cases h
 ·
  rename_i t x i;split at h;rename_i fs hu;cases hf:fs[i]? with
  |none=>rw[hf] at h;cases h
  |some f=>
   rw[hf] at h;simp only[aZ] at h;split at h;simp only[aH,cM] at h;obtain⟨rfl,rfl⟩:=h;obtain⟨cs,r,rfl,hs,rfl⟩:=eF2 hv;obtain⟨a,ha,h1⟩:=Es hr;simp only[fF,oF,gG,jJ] at ha;subst ha;have hx:execOp ρ oper=(do pure (.value (<-Instr.fieldAt t (ρ x) i)):Sem Next):=by simp only[execOp,aO]
   rw[hx];exact .of (bU2 hu hf ‹_› _ cs r h1 hs);cases h
  cases h
 ·
  rename_i t x i;split at h;rename_i fs hu;cases hf:fs[i]? with
  |none=>rw[hf] at h;cases h
  |some f=>
   rw[hf] at h;simp only[aZ] at h;split at h;simp only[aH,cM] at h;obtain⟨rfl,rfl⟩:=h;obtain⟨cs,r,rfl,hs,he⟩:=eF1 hv;obtain⟨a,ha,h1⟩:=Es hr;simp only[fF,oF,gG,jJ] at ha;subst ha;have hx:execOp ρ oper=(do pure (.value (<-Instr.field t (ρ x) i)):Sem Next):=by simp only[execOp,aO]
   rw[hx];exact .of (eI7 hu hf ‹_› _ cs r v h1 hs he);cases h
  cases h
 ·
  rename_i t x i;split at h;rename_i e hu;split at h;simp only[aH,cM] at h;obtain⟨rfl,rfl⟩:=h;obtain⟨es,k,n,y,rfl,h0,hy,hl,rfl⟩:=eE9 hv;obtain⟨a,b,fW,h1,h2⟩:=IG hr;simp only[fF,oF,gG,jJ] at fW;obtain⟨rfl,rfl⟩:=fW;have hx:execOp ρ oper=(do pure (.value (<-Instr.indexAt t (ρ x) (ρ i))):Sem Next):=by simp only[execOp,aO]
  rw[hx];exact .of (bO3 hu ‹_› _ _ es k n y h1 h2 h0 hy hl);cases h;rename_i len e hu;split at h;simp only[aH,cM] at h;obtain⟨rfl,rfl⟩:=h;obtain⟨cs,k,n,r,rfl,h0,hn,hs,rfl⟩:=eE5 hv;obtain⟨a,b,fW,h1,h2⟩:=IG hr;simp only[fF,oF,gG,jJ] at fW;obtain⟨rfl,rfl⟩:=fW;have hx:execOp ρ oper=(do pure (.value (<-Instr.indexAt t (ρ x) (ρ i))):Sem Next):=by simp only[execOp,aO]
  rw[hx];exact .of (dK4 hu ‹_› _ _ cs r k n h1 h2 h0 hn hs);cases h;cases h
 ·
  rename_i t x i;split at h;rename_i hu;simp only[aH,cM] at h;obtain⟨rfl,rfl⟩:=h;obtain⟨s,k,n,c,rfl,h0,hc,rfl⟩:=eF0 hv;obtain⟨a,b,fW,h1,h2⟩:=IG hr;simp only[fF,oF,gG,jJ] at fW;obtain⟨rfl,rfl⟩:=fW;have hx:execOp ρ oper=(do pure (.value (<-Instr.index t (ρ x) (ρ i))):Sem Next):=by simp only[execOp,aO]
  rw[hx];exact .of (eH0 hu _ _ s k n c h1 h2 h0 hc);rename_i len e hu;split at h;simp only[aH,cM] at h;obtain⟨rfl,rfl⟩:=h;obtain⟨cs,k,n,r,rfl,h0,hn,hs,he⟩:=eF7 hv;obtain⟨a,b,fW,h1,h2⟩:=IG hr;simp only[fF,oF,gG,jJ] at fW;obtain⟨rfl,rfl⟩:=fW;have hx:execOp ρ oper=(do pure (.value (<-Instr.index t (ρ x) (ρ i))):Sem Next):=by simp only[execOp,aO]
  rw[hx];exact .of (fC0 hu ‹_› _ _ cs r k n v h1 h2 h0 hn hs he);cases h;cases h
 ·
  rename_i t a;split at h;simp only[aH,cM] at h;obtain⟨rfl,rfl⟩:=h;obtain⟨cs,rfl,hl,he⟩:=Zv hv;obtain⟨a',ha,h1⟩:=Es hr;simp only[fF,oF,gG,jJ] at ha;subst ha;have hx:execOp ρ oper=(do pure (.value (<-Instr.loadAt t (ρ a))):Sem Next):=by simp only[execOp,aO]
  rw[hx];exact .of' (bM2 ‹_› _ cs v h1 hl he);cases h
 ·
  rename_i t x lo hi;have hx:execOp ρ oper=(do pure (.value (<-Instr.sliceAt t (ρ x) (lo.map ρ) (hi.map ρ) none)):Sem Next):=by simp only[execOp,aO,Option.map_none]
  rw[hx];have hlo:(lo.map ρ).isSome=lo.isSome:=by cases lo<;>rfl
  have hhi:(hi.map ρ).isSome=hi.isSome:=by cases hi<;>rfl
  have hl:(lo.toList++hi.toList).map ρ=(lo.map ρ).toList++(hi.map ρ).toList:=by cases lo<;>cases hi<;>rfl
  split at h;rename_i hu;simp only[aH,cM] at h;obtain⟨rfl,rfl⟩:=h;obtain⟨s,bs,p,rfl,hb,rfl⟩:=eE4 hv;rw[fF,hl] at hr;exact .of (dC8 hu (lo.map ρ) (hi.map ρ) _ s bs p hr.head hr.tail (by rw[hlo,hhi];exact hb));rename_i e hu;split at h;cases h;rename_i he;simp only[aH,cM] at h;obtain⟨rfl,rfl⟩:=h;obtain⟨es,bs,p,rfl,hk,hb,rfl⟩:=bP0 hv;have iR:P.elem t=e:=by simp[Program.elem,hu]
  rw[iR] at hk;rw[fF,hl] at hr;exact .of (dD0 hu (by cases hq:P.underlying e<;>simp_all) (lo.map ρ) (hi.map ρ) _ es bs p hr.head hk hr.tail (by rw[hlo,hhi];exact hb));cases h
 ·
  rename_i t i;simp only[aH,cM] at h;obtain⟨rfl,rfl⟩:=h;obtain⟨ys,rfl,hy⟩:=eF3 hv;obtain⟨a,ha,h1⟩:=Es hr;simp only[fF,oF,gG,jJ] at ha;subst ha;have hx:execOp ρ oper=(do pure (.value (<-Instr.extract (ρ t) i)):Sem Next):=by simp only[execOp,aO]
  rw[hx];generalize ρ t=tv at h1;cases h1 with
  |t us _ hl hh=>
   have hi:i<us.size:=by rw[hl];exact(fE.1 hy).1
   exact .of ⟨us[i],hh i _ v (sL hi) hy,fun w'=>by simp[Instr.extract,sL hi]⟩
 ·
  rename_i t ps;split at h;rename_i fs hu;cases hz:sK P t with
  |none=>rw[hz] at h;cases h
  |some z=>
   rw[hz] at h;simp only[aZ] at h;cases hq:VQ P fs with
   |none=>rw[hq] at h;cases h
   |some qs=>
    rw[hq] at h;simp only[aZ] at h;cases eF:Jr qs ps.toList with
    |none=>rw[eF] at h;cases h
    |some pl=>
     rw[eF] at h;simp only[aZ,aH,cM] at h;obtain⟨rfl,rfl⟩:=h;obtain⟨r,hb,rfl⟩:=bP3 hv;have hx:execOp ρ oper=(do pure (.value (<-Instr.build t (ps.map fun(i,x)=>(i,ρ x)))):Sem Next):=by simp only[execOp,aO]
     rw[hx];exact .of (eY9 hu hz hq ρ ps eF vs r (by simpa[DX,LC] using hr) hb)
  rename_i n e hu;cases hz:sK P t with
  |none=>rw[hz] at h;cases h
  |some z=>
   rw[hz] at h;simp only[aZ] at h;cases EC:P.info? e with
   |none=>rw[EC] at h;cases h
   |some ie=>
    rw[EC] at h;simp only[aZ,aH,cM] at h;obtain⟨rfl,rfl⟩:=h;obtain⟨r,hb,rfl⟩:=bP3 hv;have hx:execOp ρ oper=(do pure (.value (<-Instr.build t (ps.map fun(i,x)=>(i,ρ x)))):Sem Next):=by simp only[execOp,aO]
    rw[hx];exact .of (eY8 hu hz EC ρ ps vs r (by simpa[DX,LC] using hr) hb)
  cases h
 ·
  split at h;split at h;simp only[aH,cM] at h;obtain⟨rfl,rfl⟩:=h;simp[jU.plain] at hp;cases h;cases h
 simp only[aH,cM] at h;obtain⟨rfl,rfl⟩:=h;simp[jU.plain] at hp;simp only[aH,cM] at h;obtain⟨rfl,rfl⟩:=h;simp[jU.plain] at hp
 ·
  rename_i args tys;have hx:∀w',(execOp ρ oper).run P w'=(do pure (.value (<-Builtin.len_ tys oper.type (args.map ρ))):Sem Next).run P w':=fun w'=>by simp[execOp,aO,resolve,invoke,builtin]
  have hty:∀{q:TypeDesc},(tys[0]?).bind P.underlying=some q->∃t,tys[0]? =some t/\P.underlying t=some q:=fun{q} hq=>by cases h0:tys[0]? with|none=>rw[h0] at hq;cases hq|some t=>rw[h0] at hq;exact⟨t,rfl,hq⟩
  split at h;rename_i x pZ hu;simp only[aH,cM] at h;obtain⟨rfl,rfl⟩:=h;obtain⟨t,ht,hu⟩:=hty hu;obtain⟨s,rfl,rfl⟩:=eE3 hv;obtain⟨a,ha,h1⟩:=Es hr;simp only[fF,oF,gG,jJ] at ha;subst ha;obtain⟨u,cP,bY⟩:=dC7 (w:=w) hu _ s h1 oper.type;have hav:(args.map ρ)[0]? =some (ρ x):=by have:args= #[x]:=w9.1 (by simpa using pZ);subst this;simp
  refine⟨u,cP,fun w' _=> ?_⟩;rw[hx,bM6 ht hav];simp only[dX,bY w',dQ,eU];rename_i x e pZ hu;simp only[aH,cM] at h;obtain⟨rfl,rfl⟩:=h;obtain⟨t,ht,hu⟩:=hty hu;obtain⟨es,rfl,rfl⟩:=eE8 hv;obtain⟨a,ha,h1⟩:=Es hr;simp only[fF,oF,gG,jJ] at ha;subst ha;obtain⟨u,cP,bY⟩:=dX9 (w:=w) hu _ es h1 oper.type;have hav:(args.map ρ)[0]? =some (ρ x):=by have:args= #[x]:=w9.1 (by simpa using pZ);subst this;simp
  refine⟨u,cP,fun w' _=> ?_⟩;rw[hx,bM6 ht hav];simp only[dX,bY w',dQ,eU];cases h
 ·
  rename_i args tys;simp only[aH,cM] at h;obtain⟨rfl,rfl⟩:=h;have hm:=eE6 hv;have hx:∀w',(execOp ρ oper).run P w'=(do pure (.value (<-Builtin.max_ tys oper.type (args.map ρ))):Sem Next).run P w':=fun w'=>by simp[execOp,aO,resolve,invoke,builtin]
  cases hl:args.toList.map ρ with|nil=>rw[hl] at hr;have:vs=[]:=pL (by simpa using hr.1.symm);subst this;simp[Ey] at hm|cons a r=>rw[hl] at hr;obtain⟨u,hu,bY⟩:=bK7 (P:=P) r a vs v hr hm;refine⟨u,hu,fun w' _=> ?_⟩;rw[hx];simp[Builtin.max_,hl,bY w']
 ·
  rename_i args tys;simp only[aH,cM] at h;obtain⟨rfl,rfl⟩:=h;have hm:=eE7 hv;have hx:∀w',(execOp ρ oper).run P w'=(do pure (.value (<-Builtin.min_ tys oper.type (args.map ρ))):Sem Next).run P w':=fun w'=>by simp[execOp,aO,resolve,invoke,builtin]
  cases hl:args.toList.map ρ with|nil=>rw[hl] at hr;have:vs=[]:=pL (by simpa using hr.1.symm);subst this;simp[Ew] at hm|cons a r=>rw[hl] at hr;obtain⟨u,hu,bY⟩:=bK1 (P:=P) r a vs v hr hm;refine⟨u,hu,fun w' _=> ?_⟩;rw[hx];simp[Builtin.min_,hl,bY w']
 cases h
end
end Go.VM
namespace Go.VM
open Go.RowKit
variable [cB]
def f8 (P:Program)(r:Result Next)(K:Value->World->Prop):Prop:=match r with| .ok (.value v) w'=>K v w'| .ok .skip w'=>K undef w'| .ok (.enter f args) w'=>Calls P f args w' fun e w''=>∃v,e= .returned v/\K v w''|_=>False
def f8.wp {P:Program}{o:Oper}{a:Act}{w:World}{next:Act->World->Prop}{Q:Exit->Act->World->Prop}
  (h:f8 P ((execOp a.eval o).run P w) fun v w'=>next (a.put o.dst v) w'):o.wp P a w next Q:=by
 unfold Oper.wp;generalize (execOp a.eval o).run P w=r at h;unfold f8 at h;split at h;exact h;exact h;exact h.mono fun e w'' ⟨v,he,hk⟩=>by subst he;exact hk
 exact h.elim
def dS (w:World):Nat->Prop:=fun b=>b<w.heap.size
def dS.below {w w':World}{B:Nat}(hb:Below B w w'):∀b,dS w b->dS w' b:=fun _ h=>vU h hb.size
section
variable {P:Program} {S:Nat->Prop} {w:World}
def P3 {f:FuncId}(hf:jG P f=true)(args:Array Value)(w':World):(callFunc f args).run P w'= .ok (.enter f args) w':=by unfold jG at hf;cases h:P.funcs[f]? with|none=>rw[h] at hf;cases hf|some fn=>rw[h] at hf;simp only[fA,D3,ne_eq] at hf;obtain⟨c,hc⟩:=E1.1 hf.2;simp[callFunc,h,hf.1,hc]
def aO2 {o:aU}(ho:eL P o){oper:Oper}{ρ:Operand->Value}(hρ:∀f,ρ (.func f)= .func (.func f) #[] #[]){f:FuncId}{args:Array Operand}{tys:Array TypeId}(aO:oper.op= .call {callee:= .value (.func f),args:=args,argTypes:=tys})
  {zs:List V}{y:V}(hy:o f zs=some y)(w':World):(execOp ρ oper).run P w'= .ok (.enter f (args.map ρ)) w':=by
 have hk:=(ho.2 f zs y hy).1;simp[execOp,aO,resolve,hρ,Deferred.ofValue,invoke,P3 hk]
def WW {oper:Oper}{ρ:Operand->Value}(hρ:∀f,ρ (.func f)= .func (.func f) #[] #[]){f:FuncId}{args:Array Operand}{tys:Array TypeId}(aO:oper.op= .call {callee:= .value (.func f),args:=args,argTypes:=tys})
  (hk:jG P f=true)(w':World):(execOp ρ oper).run P w'= .ok (.enter f (args.map ρ)) w':=by
 simp[execOp,aO,resolve,hρ,Deferred.ofValue,invoke,P3 hk]
def aO1 {o:aU}(ho:eL P o){oper:Oper}{ρ:Operand->Value}{x:Operand}{args:Array Operand}{tys:Array TypeId}(aO:oper.op= .call {callee:= .value x,args:=args,argTypes:=tys})
  {vs:List V}{y:V}(hr:aX S w (ρ x::args.toList.map ρ) vs)(hy:AX o vs=some y):
  ∃f us zs,o f zs=some y/\aX S w us zs/\∀w':World,(execOp ρ oper).run P w'= .ok (.enter f us.toArray) w':=by
 match vs,hr,hy with|[],_,hy=>simp[AX] at hy|v::vs,hr,hy=>have h1:=hr.head;have h2:=hr.tail;cases v<;>simp only[AX,reduceCtorEq] at hy;rename_i fn xs ys;cases fn<;>simp only[reduceCtorEq] at hy;rename_i f;generalize hxv:ρ x=xv at h1;cases h1 with|f _ fs cs _ _ lX eS hf hc=>have r1:aX S w fs.toList xs:=⟨by simpa using lX,fun j u x hu hx=>hf j u x (by simpa using hu) hx⟩;have r2:aX S w cs.toList ys:=⟨by simpa using eS,fun j u x hu hx=>hc j u x (by simpa using hu) hx⟩;have hk:=(ho.2 f _ y hy).1;refine⟨f,fs.toList++args.toList.map ρ++cs.toList,_,hy,(r1.append h2).append r2,fun w'=> ?_⟩;simp[execOp,aO,resolve,hxv,Deferred.ofValue,invoke,P3 hk]
def fL.frz {aD:Nat}{v:Value}{y:V}(h:fL P S w aD v y){S':Nat->Prop}(hS:∀b,S b->S' b)(hg:∀b,aD<=b->b<w.heap.size->S' b):aP S' w v (frz y):=by
 cases y with
 |ow e es=>refine h.1.frz hS fun g jR=> ?_;obtain⟨vs,⟨_,hv⟩,_⟩:=h.1;rcases hv with⟨rfl,_⟩|⟨g',cap,cur,rfl,hb,hh,_⟩;simp[dR] at jR;simp only[dR,aH] at jR;subst jR;exact hg _ hb (j6.1 hh).1
 |bx cs=>refine h.1.frz hS fun g jR=> ?_;obtain⟨g',vs,ty,rfl,hb,hh,_⟩:=h.1;simp only[dR,aH] at jR;subst jR;exact hg _ hb (j6.1 hh).1
 |mp ks vs=>obtain⟨⟨g,es,c,rfl,_⟩,_⟩:=h;exact .um _
 |al n=>exact h.elim|pe a b c d=>exact h.elim|pb a b c=>exact h.elim|t ys=>exact h.elim|ud=>exact h.elim|_=>exact aP.mono h hS
def mJ.frzt {aD:Nat}{v:Value}{y:V}(h:mJ P S w aD v y){S':Nat->Prop}(hS:∀b,S b->S' b)(hg:∀b,aD<=b->b<w.heap.size->S' b):aP S' w v (frzt y):=by
 cases y with
 |t ys=>obtain⟨us,rfl,hl,hh,_⟩:=h;refine .t _ _ (by simpa using hl) fun j u x hu hx=> ?_;rw[kG] at hx;cases hy:ys[j]? with|none=>rw[hy] at hx;cases hx|some y=>rw[hy] at hx;simp only[eB,aH] at hx;subst hx;exact(hh j u y (by simpa using hu) hy).frz hS hg
 |ow e es=>exact fL.frz (P:=P) (y:= .ow e es) h hS hg|bx cs=>exact fL.frz (P:=P) (y:= .bx cs) h hS hg|mp ks vs=>exact fL.frz (P:=P) (y:= .mp ks vs) h hS hg|al n=>exact h.elim|pe a b c d=>exact h.elim|pb a b c=>exact h.elim|ud=>exact h.elim|_=>exact aP.mono h hS
end
end Go.VM
namespace Go.VM
open Go.RowKit
variable [cB]
inductive GH (o:aU) (aA:aG) (is:List QI):Option (Nat×Bool)->Prop
 |top:GH o aA is none
 |dn (c:Nat) (b:Bool) (q:QI) (h:is[c]? =some q) (hg:GH o aA is q.g) (hv:dJ o aA q.x=some (.b b)):GH o aA is (some (c,b))
section
variable {P:Program} {o:aU} {aA:aG} {is:List QI}
def cC1 {isF:List QI}(Ow:∀(c:Nat) q,is[c]? =some q->isF[c]? =some q):∀(n:Nat) (gi gj:Option (Nat×Bool)),TW is n gi gj=true->GH o aA isF gi->GH o aA isF gj
 |0,gi,gj,h,_=>by simp only[TW,pM] at h;subst h;exact .top|n+1,gi,gj,h,hi=>by simp only[TW,tK,pM] at h;rcases h with(rfl|rfl)|h;exact .top;exact hi;cases hi with|top=>simp at h|dn c b q hq hg hv=>cases hc:is[c]? with|none=>simp[hc] at h|some C=>have:=Ow c C hc;rw[hq] at this;cases this;simp only[hc] at h;exact cC1 Ow n q.g gj h hg
def XK (is:List QI)(q:QI):Prop:=
 (q.kind=0->∃p xs,q.x= .op p xs/\xs.length=q.srcs.length/\∀(i:Nat) j,q.srcs[i]? =some (some j)->∃q',is[j]? =some q'/\xs[i]? =some q'.x)/\
 (q.kind=1->∃c a b sc sa sb,q.x= .ite c a b/\q.srcs=[sc,sa,sb]/\(∀j,sc=some j->∃q',is[j]? =some q'/\c=q'.x)/\(∀j,sa=some j->∃q',is[j]? =some q'/\a=q'.x)/\(∀j,sb=some j->∃q',is[j]? =some q'/\b=q'.x))/\
 (q.kind≠0->q.kind≠1->∃s,q.srcs=[s]/\∀j,s=some j->∃q',is[j]? =some q'/\q.x=q'.x)
def aC2:∀{xs:List X} {vs:List V},vI o aA xs=some vs->vs.length=xs.length/\∀(i:Nat) x,xs[i]? =some x->∃v,vs[i]? =some v/\dJ o aA x=some v
 |[],vs,h=>by simp only[vI,aH] at h;subst h;exact⟨rfl,by simp⟩|x::xs,vs,h=>by simp only[vI] at h;cases hx:dJ o aA x with|none=>rw[hx] at h;cases h|some v=>rw[hx] at h;simp only[aZ] at h;cases FM:vI o aA xs with|none=>rw[FM] at h;cases h|some r=>rw[FM] at h;simp only[aZ,aH] at h;subst h;obtain⟨h1,h2⟩:=aC2 FM;refine⟨by simp[h1],fun i y hy=> ?_⟩;cases i with|zero=>simp at hy;subst hy;exact⟨v,rfl,hx⟩|succ i=>simp at hy;obtain⟨u,hu,he⟩:=h2 i y hy;exact⟨u,by simpa using hu,he⟩
def bW7 (FR:∀(k:Nat) q,is[k]? =some q->XK is q){roots:List Nat}(hd:Vz is roots=true)(hr:∀j∈roots,∀q,is[j]? =some q->∃v,dJ o aA q.x=some v):
  ∀(m i:Nat),is.length - i<=m->∀q,is[i]? =some q->GH o aA is q.g->∃v,dJ o aA q.x=some v:=by
 intro m;induction m with
 |zero=>intro i hi q hq _;have:=(fE.1 hq).1;omega
 |succ m ih=>
  intro i hi q hq hg;have iJ:=(fE.1 hq).1;unfold Vz at hd;have h1:=eM.1 hd i (nH.2 iJ);simp only[tK,List.contains_eq_mem,uS,List.any_eq_true,nH,fA] at h1;rcases h1 with h1|⟨k,hk,Bw,hf⟩;exact hr i h1 q hq;have hK:is[k]? =some is[k]:=eI hk;have zH:is.length - k<=m:=by omega
  obtain⟨s0,s1,s2⟩:=FR k _ hK;unfold bU0 at hf;rw[hq,hK] at hf;simp only at hf;generalize is[k]=K at hf hK s0 s1 s2;by_cases h1:K.kind=1;rw[aY h1] at hf;obtain⟨c,a,b,sc,sa,sb,hx,hsr,hc,ha,hb⟩:=s1 h1;rw[hsr] at hf;simp only[tK,fA,pM] at hf;have strict:GH o aA is K.g->∃v,dJ o aA K.x=some v:=fun hg=>ih k zH K hK hg;rcases hf with⟨rfl,hgg⟩|hf;obtain⟨v,hv⟩:=strict (hgg▸hg);obtain⟨q',dE,rfl⟩:=hc i rfl;rw[hq] at dE;cases dE;rw[hx] at hv;simp only[dJ] at hv;cases he:dJ o aA q.x with|none=>rw[he] at hv;cases hv|some u=>exact⟨u,rfl⟩
  cases sc with
  |none=>cases hf
  |some j=>
   simp only[fA,tK,pM] at hf;obtain⟨hf,hJ⟩:=hf;obtain⟨q',dE,rfl⟩:=hc j rfl;rw[dE] at hJ;simp only[pM] at hJ;rcases hf with⟨rfl,hgi⟩|⟨rfl,hgi⟩;rw[hgi] at hg;cases hg with|dn _ _ q2 h2 sD Cd=>rw[dE] at h2;cases h2;obtain⟨v,hv⟩:=strict (hJ▸sD);obtain⟨q3,hq3,rfl⟩:=ha i rfl;rw[hq] at hq3;cases hq3;rw[hx] at hv;simp only[dJ,Cd,aZ,jA] at hv;exact⟨v,hv⟩
   rw[hgi] at hg;cases hg with|dn _ _ q2 h2 sD Cd=>rw[dE] at h2;cases h2;obtain⟨v,hv⟩:=strict (hJ▸sD);obtain⟨q3,hq3,rfl⟩:=hb i rfl;rw[hq] at hq3;cases hq3;rw[hx] at hv;simp only[dJ,Cd,aZ,qW,mW] at hv;exact⟨v,hv⟩
  rw[aK h1] at hf;simp only[fA,List.contains_eq_mem,uS,pM] at hf;obtain⟨As,hgg⟩:=hf;obtain⟨v,hv⟩:=ih k zH K hK (hgg▸hg);obtain⟨pos,lE⟩:=List.mem_iff_getElem?.1 As;by_cases h0:K.kind=0;obtain⟨p,xs,hx,hl,hs⟩:=s0 h0;obtain⟨q',dE,hxp⟩:=hs pos i lE;rw[hq] at dE;cases dE;rw[hx] at hv;simp only[dJ] at hv;cases he:vI o aA xs with|none=>rw[he] at hv;cases hv|some us=>obtain⟨u,_,hu⟩:=(aC2 he).2 pos _ hxp;exact⟨u,hu⟩
  obtain⟨s,hsr,hs⟩:=s2 h0 h1;rw[hsr] at lE;cases pos with
  |zero=>simp only[D7,aH] at lE;obtain⟨q',dE,hx⟩:=hs i lE;rw[hq] at dE;cases dE;exact⟨v,hx▸hv⟩
  |succ pos=>simp at lE
end
section
variable (o:aU) (aA:aG) (isF:List QI) (a0:Act)
def GF (E R:Nat->Prop)(S:Nat->Prop)(defs:List (Tmp×Nat))(is:List QI)(a:Act)(w:World):Prop:=
 a.tmps.size=a0.tmps.size/\a.defers=a0.defers/\(∀j,j<is.length->is[j]? =isF[j]?)/\is.length<=isF.length/\∀t,match pI defs t with|none=>R t->a.tmps[t]? =a0.tmps[t]?|some j=>∃q,is[j]? =some q/\(E j->GH o aA isF q.g->∀v,dJ o aA q.x=some v->∃u,a.tmps[t]? =some u/\aP S w u v)/\(E j->¬GH o aA isF q.g->∀b,a.tmps[t]?≠some (.bool b))
abbrev ES (S:Nat->Prop)(defs:List (Tmp×Nat))(is:List QI)(a:Act)(w:World):Prop:=GF o aA isF a0 (fun _=>True) (fun _=>True) S defs is a w
def bK6 {n:Nat}:∀{xs:List X} {x:X},x∈xs->n∈xZ x->n∈Uu xs
 |y::ys,x,h,hn=>by simp only[Uu,iC];rcases eP.1 h with rfl|h;exact .inl hn;exact .inr (bK6 h hn)
end
section
variable {P:Program} {o:aU} {aA:aG} {isF:List QI} {a0:Act} {E R:Nat->Prop} {S:Nat->Prop} {defs:List (Tmp×Nat)} {is:List QI} {a:Act} {w:World}
def GF.move {S':Nat->Prop}{w':World}(h:GF o aA isF a0 E R S defs is a w)(hS:∀b,S b->S' b)(hw:∀p:Addr,S p.block->w'.cell? p=w.cell? p):GF o aA isF a0 E R S' defs is a w':=by obtain⟨h1,h2,h3,EL,h4⟩:=h;refine⟨h1,h2,h3,EL,fun t=> ?_⟩;have:=h4 t;split at this;exact this;rename_i j hd;obtain⟨q,hq,hy,hn⟩:=this;exact⟨q,hq,fun he hg v hv=>let ⟨u,hu,hr⟩:=hy he hg v hv;⟨u,hu,hr.move hS hw⟩,hn⟩
def RB (h:GF o aA isF a0 E R S defs is a w)(hl:(∀n v,iH aA n=some v->∃u,a0.tmps[n]? =some u/\aP S w u v)/\mV S w){x:Operand}{s:Option Nat}{X:X}(hx:iG defs is x=some (s,X)){v:V}(hv:dJ o aA X=some v)
  (hs:∀j q,s=some j->is[j]? =some q->GH o aA isF q.g)(hE:∀j,s=some j->E j)(hR:∀t∈xZ X,R t):aP S w (a.eval x) v:=by
 cases x with
 |tmp t=>simp only[iG] at hx;have h4:=h.2.2.2.2 t;split at hx;rename_i j hd;rw[hd] at h4;obtain⟨q,hq,hy,_⟩:=h4;rw[hq] at hx;simp only[eB,aH,cM] at hx;obtain⟨rfl,rfl⟩:=hx;obtain⟨u,hu,hr⟩:=hy (hE j rfl) (hs j q rfl hq) v hv;simpa[Act.eval,vP,hu] using hr;rename_i hd;rw[hd] at h4;simp only[aH,cM] at hx;obtain⟨rfl,rfl⟩:=hx;simp only[dJ] at hv;obtain⟨u,hu,hr⟩:=hl.1 t v hv;have EK:a.tmps[t]? =some u:=(h4 (hR t (by simp[xZ]))).trans hu;simpa[Act.eval,vP,EK] using hr
 |const c=>simp only[iG] at hx;cases hc:pR c with|none=>rw[hc] at hx;cases hx|some c'=>rw[hc] at hx;simp only[eB,aH,cM] at hx;obtain⟨rfl,rfl⟩:=hx;simp only[dJ,aH] at hv;subst hv;exact Jv hc
 |func f=>simp only[iG,aH,cM] at hx;obtain⟨rfl,rfl⟩:=hx;simp only[dJ,aH] at hv;subst hv;exact .f _ #[] #[] [] [] rfl rfl (by simp) (by simp)
 |global g=>simp only[iG] at hx;cases hc:yH g with|none=>rw[hc] at hx;cases hx|some c'=>rw[hc] at hx;simp only[eB,aH,cM] at hx;obtain⟨rfl,rfl⟩:=hx;simp only[dJ,aH] at hv;subst hv;exact hl.2.val hc
def ZG:∀{xs:List Operand} {ys:List (Option Nat×X)},IL defs is xs=some ys->ys.length=xs.length/\∀(i:Nat) x,xs[i]? =some x->∃y,ys[i]? =some y/\iG defs is x=some y
 |[],ys,h=>by simp only[IL,aH] at h;subst h;exact⟨rfl,by simp⟩|x::xs,ys,h=>by simp only[IL] at h;cases hx:iG defs is x with|none=>rw[hx] at h;cases h|some y=>rw[hx] at h;simp only[aZ] at h;cases FM:IL defs is xs with|none=>rw[FM] at h;cases h|some r=>rw[FM] at h;simp only[aZ,aH] at h;subst h;obtain⟨h1,h2⟩:=ZG FM;refine⟨by simp[h1],fun i y' hy=> ?_⟩;cases i with|zero=>simp at hy;subst hy;exact⟨y,rfl,hx⟩|succ i=>simp at hy;obtain⟨u,hu,he⟩:=h2 i y' hy;exact⟨u,by simpa using hu,he⟩
def dM3 (h:GF o aA isF a0 E R S defs is a w)(hl:(∀n v,iH aA n=some v->∃u,a0.tmps[n]? =some u/\aP S w u v)/\mV S w){xs:List Operand}{ys:List (Option Nat×X)}(hx:IL defs is xs=some ys){vs:List V}(hv:vI o aA (ys.map (·.2))=some vs)
  (hs:∀y∈ys,∀j q,y.1=some j->is[j]? =some q->GH o aA isF q.g)(hE:∀y∈ys,∀j,y.1=some j->E j)(hR:∀y∈ys,∀t∈xZ y.2,R t):aX S w (xs.map a.eval) vs:=by
 obtain⟨iX,h1⟩:=ZG hx;obtain⟨kX,h2⟩:=aC2 hv;refine⟨by simp[kX,iX],fun i u v hu dZ=> ?_⟩;rw[kG] at hu;cases FN:xs[i]? with|none=>rw[FN] at hu;cases hu|some x=>rw[FN] at hu;simp only[eB,aH] at hu;subst hu;obtain⟨y,hy,ho⟩:=h1 i x FN;obtain⟨v',Cd,he⟩:=h2 i y.2 (by rw[kG,hy];rfl);rw[dZ] at Cd;cases Cd;exact RB h hl (s:=y.1) (X:=y.2) (by simpa using ho) he (fun j q=>hs y (k6 hy) j q) (hE y (k6 hy)) (hR y (k6 hy))
def aF0 (h:GF o aA isF a0 E R S defs is a w){t:Tmp}{j:Nat}(hd:pI defs t=some j):j<is.length:=by have:=h.2.2.2.2 t;rw[hd] at this;obtain⟨q,hq,_⟩:=this;exact(fE.1 hq).1
def Lv (KH:∀t j,pI defs t=some j->j<is.length)(KE:∀j,j<is.length->is[j]? =isF[j]?){x:Operand}{j:Nat}{X:X}(hx:iG defs is x=some (some j,X)):∃q,isF[j]? =some q/\X=q.x:=by
 cases x with
 |tmp t=>
  simp only[iG] at hx;split at hx;rename_i j' hd;have bE:=KH _ _ hd;cases hq:is[j']? with|none=>rw[hq] at hx;cases hx|some q=>rw[hq] at hx;simp only[eB,aH,cM] at hx;obtain⟨rfl,rfl⟩:=hx;exact⟨q,(KE _ bE).symm.trans hq,rfl⟩
  simp at hx
 |const c=>simp only[iG] at hx;cases hc:pR c<;>rw[hc] at hx<;>simp at hx|func f=>simp[iG] at hx|global g=>simp only[iG] at hx;cases hc:yH g<;>rw[hc] at hx<;>simp at hx
def VL {draw:Bool}(KH:∀t j,pI defs t=some j->j<is.length)(KE:∀j,j<is.length->is[j]? =isF[j]?){op:Oper}{q:QI}(hq:Gg P draw defs is op=some q):XK isF q/\q.g=op.guard:=by
 unfold Gg at hq;split at hq;rename_i c x y _;cases hc:iG defs is c with|none=>rw[hc] at hq;cases hq|some c'=>rw[hc] at hq;simp only[aZ] at hq;cases hx:iG defs is x with|none=>rw[hx] at hq;cases hq|some x'=>rw[hx] at hq;simp only[aZ] at hq;cases hy:iG defs is y with|none=>rw[hy] at hq;cases hq|some y'=>rw[hy] at hq;simp only[aZ,aH] at hq;subst hq;refine⟨⟨fun h0=>by simp at h0,fun _=>⟨c'.2,x'.2,y'.2,c'.1,x'.1,y'.1,rfl,rfl,fun j hj=> ?_,fun j hj=> ?_,fun j hj=> ?_⟩,fun _ h1=>absurd rfl h1⟩,rfl⟩;exact Lv KH KE (x:=c) (by rw[hc,<-hj]);exact Lv KH KE (x:=x) (by rw[hx,<-hj]);exact Lv KH KE (x:=y) (by rw[hy,<-hj])
 rename_i x _;cases hx:iG defs is x with|none=>rw[hx] at hq;cases hq|some y=>rw[hx] at hq;simp only[aZ,aH] at hq;subst hq;exact⟨⟨fun h0=>by simp at h0,fun h0=>by simp at h0,fun _ _=>⟨y.1,rfl,fun j hj=>Lv KH KE (x:=x) (by rw[hx,<-hj])⟩⟩,rfl⟩
 rename_i x _;cases hx:iG defs is x with|none=>rw[hx] at hq;cases hq|some y=>rw[hx] at hq;simp only[aZ,aH] at hq;subst hq;exact⟨⟨fun h0=>by simp at h0,fun h0=>by simp at h0,fun _ _=>⟨y.1,rfl,fun j hj=>Lv KH KE (x:=x) (by rw[hx,<-hj])⟩⟩,rfl⟩
 cases hp:wI P op.op with
 |none=>rw[hp] at hq;cases hq
 |some p=>
  rw[hp] at hq;simp only[aZ] at hq;cases hd:DA draw p.1 with
  |none=>rw[hd] at hq;cases hq
  |some p'=>
   rw[hd] at hq;simp only[aZ] at hq;cases hy:IL defs is p.2 with
   |none=>rw[hy] at hq;cases hq
   |some ys=>
    rw[hy] at hq;simp only[aZ,aH] at hq;subst hq;refine⟨⟨fun _=>⟨p',ys.map (·.2),rfl,by simp,fun i j pY=> ?_⟩,fun h1=>by simp at h1,fun h0=>absurd rfl h0⟩,rfl⟩
    simp only[kG] at pY;cases FJ:ys[i]? with
    |none=>rw[FJ] at pY;cases pY
    |some y=>
     rw[FJ] at pY;simp only[eB,aH] at pY;obtain⟨hl,h1⟩:=ZG hy;have hi:i<p.2.length:=by rw[<-hl];exact(fE.1 FJ).1
     obtain⟨y',eS,ho⟩:=h1 i _ (eI hi);rw[FJ] at eS;cases eS;obtain⟨q',dE,he⟩:=Lv KH KE (j:=j) (X:=y.2) (by rw[ho,<-pY]);exact⟨q',dE,by rw[kG,FJ,<-he];rfl⟩
end
end Go.VM
namespace Go.VM
open Go.RowKit
variable [cB]
section
variable {P:Program} {o:aU} {aA:aG} {isF:List QI} {a0:Act} {E R:Nat->Prop} {S:Nat->Prop} {defs:List (Tmp×Nat)} {is:List QI} {a:Act} {w:World}
def aS6:∀(x:V),x.uniq=true->x.flat=true:=by
 intro x;have key:∀(n:Nat) (x:V),SizeOf.sizeOf x<n->x.uniq=true->x.flat=true:=by intro n;induction n with|zero=>intro x h;omega|succ n ih=>intro x hn hx;cases x with|a cs=>simp only[V.uniq,V.flat] at hx⊢;rw[V.uniqs_iff] at hx;rw[V.flats_iff];intro y hy;exact ih y (by have:=List.sizeOf_lt_of_mem hy;simp at hn;omega) (hx y hy)|t cs=>simp only[V.uniq,V.flat] at hx⊢;rw[V.uniqs_iff] at hx;rw[V.flats_iff];intro y hy;exact ih y (by have:=List.sizeOf_lt_of_mem hy;simp at hn;omega) (hx y hy)|_=>simp_all[V.uniq,V.flat]
 exact key _ x (Nat.lt_succ_self _)
def cH5 (x:V)(h:x.uniq=true):frz x=x:=by cases x<;>simp_all[V.uniq,frz]
def cH4 (x:V)(h:x.uniq=true):frzt x=x:=by cases x with|t ys=>simp only[V.uniq] at h;rw[V.uniqs_iff] at h;simp only[frzt];congr 1;rw[List.map_congr_left (g:=id) fun y hy=>cH5 y (h y hy)];simp|_=>simp_all[V.uniq,frzt,frz]
def bI9 {draw:Bool}(h:GF o aA isF a0 E R S defs is a w)(hl:(∀n v,iH aA n=some v->∃u,a0.tmps[n]? =some u/\aP S w u v)/\mV S w){op:Oper}{q:QI}(hq:Gg P draw defs is op=some q)
  (qN:Lm is q=true)(hg:GH o aA isF q.g)(hE:∀s∈q.srcs,∀j,s=some j->E j)(hR:∀t∈xZ q.x,R t){v:V}(hv:dJ o aA q.x=some v):
  (∃u,aP S w u v/\∀w',(execOp a.eval op).run P w'= .ok (.value u) w')\/
  (∃p p' xs vs,wI P op.op=some (p,xs)/\DA draw p=some p'/\aX S w (xs.map a.eval) vs/\aS o p' vs=some v):=by
 have Ow:∀(c:Nat) q,is[c]? =some q->isF[c]? =some q:=fun c q' hc=>(h.2.2.1 c (fE.1 hc).1).symm.trans hc;have cR:∀s,OJ is q.g s=true->∀j q',s=some j->is[j]? =some q'->GH o aA isF q'.g:=by intro s hs j q' hj dE;subst hj;simp only[OJ,dE] at hs;exact cC1 Ow 100 q.g q'.g hs hg
 unfold Gg at hq;unfold Lm at qN;split at hq;rename_i c x y aO;left;cases hc:iG defs is c with
 |none=>rw[hc] at hq;cases hq
 |some c'=>
  rw[hc] at hq;simp only[aZ] at hq;cases hx:iG defs is x with
  |none=>rw[hx] at hq;cases hq
  |some x'=>
   rw[hx] at hq;simp only[aZ] at hq;cases hy:iG defs is y with
   |none=>rw[hy] at hq;cases hq
   |some y'=>
    rw[hy] at hq;simp only[aZ,aH] at hq;subst hq;simp only[jA,fA] at qN;obtain⟨⟨h1,h2⟩,h3⟩:=qN;simp only[dJ] at hv;cases vG:dJ o aA c'.2 with
    |none=>rw[vG] at hv;cases hv
    |some vc=>
     rw[vG] at hv;simp only[aZ] at hv;have rc:=RB h hl (s:=c'.1) (X:=c'.2) (by simpa using hc) vG (cR _ h1) (hE _ (by simp)) (fun t ht=>hR t (by simp[xZ,ht]));have branch:∀(b:Bool) (z:Operand) (z':Option Nat×X),iG defs is z=some z'->(∀j,z'.1=some j->E j)->(∀t∈xZ z'.2,R t)->Ut is op.guard c'.1 b z'.1=true->dJ o aA c'.2=some (.b b)->dJ o aA z'.2=some v->aP S w (a.eval z) v:=by
      intro b z z' hz hzE hzR hs hb FF;refine RB h hl (s:=z'.1) (X:=z'.2) (by simpa using hz) FF (fun j q' hj dE=> ?_) hzE hzR;unfold Ut at hs;rw[tK] at hs;rcases hs with hs|hs;exact cR _ hs j q' hj dE;cases oE:c'.1 with
      |none=>rw[oE] at hs;cases hs
      |some ci=>
       rw[oE,hj] at hs;simp only[dE,pM] at hs;rw[hs];obtain⟨qc,hqc,hXc⟩:=Lv (fun _ _ hd=>aF0 h hd) h.2.2.1 (x:=c) (j:=ci) (X:=c'.2) (by rw[hc,<-oE]);have hqc':is[ci]? =some qc:=by
        have bE:ci<is.length:=by rw[oE] at h1;simp only[OJ] at h1;cases hci:is[ci]? with|none=>rw[hci] at h1;cases h1|some _=>exact(fE.1 hci).1
        rw[h.2.2.1 ci bE];exact hqc
       exact .dn ci b qc hqc (cR _ h1 ci qc oE hqc') (hXc▸hb)
     cases vc with
     |b t=>
      have e:a.eval c= .bool t:=by generalize a.eval c=z at rc;cases rc;rfl
      cases t with|true=>simp only[jA] at hv;exact⟨a.eval x,branch true x x' hx (hE _ (by simp)) (fun t ht=>hR t (by simp[xZ,ht])) h2 vG hv,fun w'=>by simp[execOp,aO,e,asBool]⟩|false=>simp only[qW,mW] at hv;exact⟨a.eval y,branch false y y' hy (hE _ (by simp)) (fun t ht=>hR t (by simp[xZ,ht])) h3 vG hv,fun w'=>by simp[execOp,aO,e,asBool]⟩
     |_=>cases hv
 rename_i x aO;left;cases hx:iG defs is x with|none=>rw[hx] at hq;cases hq|some y=>rw[hx] at hq;simp only[aZ,aH] at hq;subst hq;simp only[(by decide:¬(2=1)),mW,HX,List.all_nil,Bool.and_true] at qN;exact⟨a.eval x,RB h hl (s:=y.1) (X:=y.2) (by simpa using hx) hv (cR _ qN) (hE _ (by simp)) hR,fun w'=>by simp[execOp,aO]⟩
 rename_i x aO;left;cases hx:iG defs is x with|none=>rw[hx] at hq;cases hq|some y=>rw[hx] at hq;simp only[aZ,aH] at hq;subst hq;simp only[(by decide:¬(2=1)),mW,HX,List.all_nil,Bool.and_true] at qN;exact⟨a.eval x,RB h hl (s:=y.1) (X:=y.2) (by simpa using hx) hv (cR _ qN) (hE _ (by simp)) hR,fun w'=>by simp[execOp,aO]⟩
 right;cases hp:wI P op.op with|none=>rw[hp] at hq;cases hq|some p=>rw[hp] at hq;simp only[aZ] at hq;cases hd:DA draw p.1 with|none=>rw[hd] at hq;cases hq|some p'=>rw[hd] at hq;simp only[aZ] at hq;cases hy:IL defs is p.2 with|none=>rw[hy] at hq;cases hq|some ys=>rw[hy] at hq;simp only[aZ,aH] at hq;subst hq;simp only[(by decide:¬(0=1)),mW] at qN;simp only[dJ] at hv;cases he:vI o aA (ys.map (·.2)) with|none=>rw[he] at hv;cases hv|some vs=>rw[he] at hv;simp only[aZ] at hv;refine⟨p.1,p',p.2,vs,rfl,hd,dM3 h hl hy he (fun y eS j q' hj dE=> ?_) (fun y eS=>hE y.1 (jL.2 ⟨y,eS,rfl⟩)) (fun y eS t ht=>hR t (by simp only[xZ];exact bK6 (jL.2 ⟨y,eS,rfl⟩) ht)),hv⟩;exact cR y.1 (eM.1 qN _ (jL.2 ⟨y,eS,rfl⟩)) j q' hj dE
end
end Go.VM
namespace Go.VM
open Go.RowKit
variable [cB]
section
variable {P:Program} {S:Nat->Prop} {w:World}
def fL.val {aD:Nat}{v:Value}{y:V}(h:fL P S w aD v y)(hu:y.uniq=true):aP S w v y:=by cases y<;>first |exact h|exact h.elim|(simp[V.uniq] at hu;done)
def mJ.val {aD:Nat}{v:Value}{y:V}(h:mJ P S w aD v y)(hu:y.uniq=true):aP S w v y:=by
 cases y with
 |t ys=>obtain⟨us,rfl,hl,hh,_⟩:=h;refine .t _ _ (by simpa using hl) fun j u x cP hx=>(hh j u x (by simpa using cP) hx).val ?_;simp only[V.uniq] at hu;exact(V.uniqs_iff ys).1 hu x (k6 hx)
 |_=>first |exact fL.val (P:=P) (aD:=aD) h hu|(simp[V.uniq] at hu;done)
def bY4 {o:aU}(ho:eL P o){s:Sem Next}{f:FuncId}{us:List Value}{zs:List V}{y:V}(hz:o f zs=some y)(hG:mV (dS w) w)(hr:aX (dS w) w us zs)(bY:s.run P w= .ok (.enter f us.toArray) w):
  f8 P (s.run P w) fun u w1=>Below w.heap.size w w1/\aP (dS w1) w1 u (frzt y):=by
 rw[bY];refine((ho.2 f zs y hz).2 (dS w) w us (fun _ h=>h) hG hr).mono fun e w1 ⟨v,he,hb,S',zJ,qR,eA⟩=>⟨v,he,hb,eA.frzt (fun b fD=>(qR b fD).2) fun b _ fD=>fD⟩
def bY5 {o:aU}(ho:eL P o){s:Sem Next}{f:FuncId}{us:List Value}{zs:List V}{y:V}(hz:o f zs=some y)(hu:y.uniq=true)(hS:∀b,S b->b<w.heap.size)(hG:mV S w)(hr:aX S w us zs)(bY:∀w':World,s.run P w'= .ok (.enter f us.toArray) w'):
  ∃u,aP S w u (frzt y)/\∀w',Below w.heap.size w w'->Oper.quietUpon P (Below w.heap.size w) w' u (s.run P w'):=by
 have bR3:∀w',Below w.heap.size w w'->Calls P f us.toArray w' fun e w3=>e= .returned y.toVal/\Below w.heap.size w w3/\∃S':Nat->Prop,aP S' w3 y.toVal y:=by intro w' hb;refine((ho.2 f zs y hz).2 S w' us (fun b h=>vU (hS b h) hb.size) (hG.move (fun _ h=>h) fun _ hp=>hb.cell (hS _ hp)) (hr.bel hS hb)).mono fun e w1 ⟨v,he,yF,S',zJ,qR,eA⟩=> ?_;have hv:=eA.val hu;have:=hv.val hu;subst this;exact⟨he,hb.trans (yF.mono hb.size),S',hv⟩
 refine⟨y.toVal,?_,fun w' hb=> ?_⟩;obtain⟨e,w3,fr,⟨_,_,S',kN⟩,_⟩:=bR3 w (cZ _ _) [];rw[cH4 y hu];exact kN.of_flat (aS6 y hu);rw[bY];exact⟨rfl,(bR3 w' hb).mono fun e w3 ⟨h1,h2,_⟩=>⟨h1,h2⟩⟩
def bZ2 {k:Nat}:∀(ps:List (Nat×Value)) (i:Nat) (cells:Array Value),(∀(j:Nat) p,ps[j]? =some p->p.1=i+j/\p.2.cells.size=k)->cells.size=(i+ps.length)*k->
  ∃tG,Instr.fill (fun i=>some (i*k,k)) cells ps=some tG/\tG.toList=cells.toList.take (i*k)++(ps.flatMap fun p=>p.2.cells.toList)
 |[],i,cells,_,hs=>⟨cells,rfl,by simp at hs;simp[rM,hs]⟩
 |(i',v)::ps,i,cells,hp,hs=>by
  obtain⟨h1,h2⟩:=hp 0 (i',v) rfl;simp only[EZ] at h1 h2;subst h1;simp only[fY] at hs;have hk:i'*k+k<=cells.size:=by rw[hs,<-CM];exact yR _ (by omega)
  have Ov:=bS5 v.cells.toList (i'*k) cells (by simp;omega);have e:(v.cells.zipIdx.foldl (fun cs (c,j)=>cs.setIfInBounds (i'*k+j) c) cells)=((v.cells.toList.zipIdx 0).foldl (fun cs (p:Value×Nat)=>cs.setIfInBounds (i'*k+p.2) p.1) cells):=by rw[<-Array.foldl_toList,Array.toList_zipIdx]
  have dA:(v.cells.zipIdx.foldl (fun cs (c,j)=>cs.setIfInBounds (i'*k+j) c) cells).size=cells.size:=by rw[e,bS4]
  obtain⟨tG,hf,ht⟩:=bZ2 ps (i'+1) (v.cells.zipIdx.foldl (fun cs (c,j)=>cs.setIfInBounds (i'*k+j) c) cells) (fun j p hj=>by
   have:=hp (j+1) p (by simpa using hj);exact⟨by omega,this.2⟩) (by rw[dA,hs];congr 1;omega)
  refine⟨tG,?_,?_⟩;unfold Instr.fill;simp only;rw[aK (by simp[h2];omega)];exact hf;rw[ht,e,Ov,CM,AZ,LI,D5];have hl:(cells.toList.take (i'*k)).length=i'*k:=by simp;omega
  rw[hl,rM (by rw[hl];omega),show i'*k+k - i'*k=k from by omega,AZ];congr 1;rw[LI,rM (by simp[h2]),show k - v.cells.toList.length=0 from by simp[h2]];simp
def dI3 {n:Nat}{l:List Nat}(h:l=List.range n)(j:Nat)(x:Nat)(hx:l[j]? =some x):x=j/\j<n:=by
 subst h;have hj:j<n:=by have:=(fE.1 hx).1;simpa using this
 rw[Ts hj] at hx;cases hx;exact⟨rfl,hj⟩
def VA (e:TypeId)(cells:Array Value)(w':World):(newRow e cells).run P w'= .ok ⟨w'.heap.size,0,none⟩ (w'.alloc (.cells cells e)):=rfl
def aO4 {t e:TypeId}{k n:Nat}(hu:P.underlying t=some (.slice e))(hk:(P.info? e).map (·.size)=some k)(nD:n*k<=16777216)(hz:(sK P e).isSome=true)(parts:Array (Nat×Operand))(hn:parts.toList.map (·.1)=List.range n)
  (ρ:Operand->Value)(xs:List V)(hr:aX S w (parts.toList.map fun p=>ρ p.2) xs)(hx:∀x∈xs,x.cells.length=k):
  ∃cells:List Value,aX S w cells (cL xs)/\cells.length=n*k/\xs.length=n/\∀w':World,(Instr.buildSlice t n (parts.map fun(i,x)=>(i,ρ x))).run P w'= .ok (.slice (some ⟨w'.heap.size,0,none⟩) n n) (w'.alloc (.cells cells.toArray e)):=by
 have bT:parts.toList.length=n:=by have:=jV List.length hn;simpa using this
 have kV:xs.length=n:=by rw[<-hr.1];simpa using bT
 let ps:List (Nat×Value):=parts.toList.map fun p=>(p.1,ρ p.2);have hps:∀(j:Nat) p,ps[j]? =some p->p.1=0+j/\p.2.cells.size=k:=by
  intro j p hj;simp only[ps,kG] at hj;cases hp:parts.toList[j]? with
  |none=>rw[hp] at hj;cases hj
  |some p0=>
   rw[hp] at hj;simp only[eB,aH] at hj;subst hj;have h1:=dI3 hn j p0.1 (by rw[kG,hp];rfl);have hxj:j<xs.length:=by rw[kV];exact h1.2
   have h2:=hr.2 j (ρ p0.2) xs[j] (by rw[kG,hp];rfl) (eI hxj);have h3:=h2.cells.1;rw[hx _ (gN hxj)] at h3;exact⟨by simpa using h1.1,by simpa using h3⟩
 have KI:aX S w (ps.flatMap fun p=>p.2.cells.toList) (cL xs):=by
  have key:∀(l:List Value) (ys:List V),aX S w l ys->aX S w (l.flatMap fun v=>v.cells.toList) (cL ys):=by intro l;induction l with|nil=>intro ys h;have:ys=[]:=pL (by simpa using h.1.symm);subst this;exact aX.nil|cons v l ih=>intro ys h;cases ys with|nil=>exact absurd h.1 (by simp)|cons y ys=>rw[D5,tC];exact h.head.cells.append (ih ys h.tail)
  have:=key _ _ hr;simpa[ps,List.flatMap_map] using this
 have fC:(ps.flatMap fun p=>p.2.cells.toList).length=n*k:=by rw[KI.1,Vn hx,kV]
 refine⟨_,KI,fC,kV,fun w'=> ?_⟩;obtain⟨i0,wQ,hk0⟩:∃i0,P.info? e=some i0/\i0.size=k:=by cases h:P.info? e with|none=>rw[h] at hk;cases hk|some i0=>rw[h] at hk;exact⟨i0,rfl,by simpa using hk⟩
 obtain⟨zv,FF⟩:∃zv,i0.zero=some zv:=by unfold sK at hz;rw[wQ] at hz;simp only[aZ] at hz;cases h:i0.zero with|none=>rw[h] at hz;cases hz|some zv=>exact⟨zv,rfl⟩
 have hfill:=fun(cells:Array Value) (hc:cells.size=n*k)=>bZ2 (k:=k) ps 0 cells hps (by simp[ps,bT,hc]);have e1:(parts.map fun(i,x)=>(i,ρ x)).toList=ps:=by simp[ps]
 have dA:(sizeOf e).run P w'= .ok k w':=by rw[run_sizeOf w' wQ];simp[Program.cellsOf,wQ,hk0]
 have Bo:(zeroValue e).run P w'= .ok zv w':=by simp[zeroValue,typeInfo,wQ,FF]
 by_cases h0:n*k=0;obtain⟨tG,hf,ht⟩:=hfill ((Array.range (n*k)).map fun i=>(#[]:Array Value)[i % (#[]:Array Value).size]!) (by simp);have:tG=(ps.flatMap fun p=>p.2.cells.toList).toArray:=by apply w9.1;rw[ht];simp
 subst this;simp only[Instr.buildSlice,dX,eE hu,dQ,dA,e1];rw[aK (by omega:¬(n*k>2 ^ 24)),aY h0];simp only[eU,dX,dQ,hf,VA];obtain⟨tG,hf,ht⟩:=hfill ((Array.range (n*k)).map fun i=>zv.cells[i % zv.cells.size]!) (by simp);have:tG=(ps.flatMap fun p=>p.2.cells.toList).toArray:=by apply w9.1;rw[ht];simp
 subst this;simp only[Instr.buildSlice,dX,eE hu,dQ,dA,e1];rw[aK (by omega:¬(n*k>2 ^ 24)),aK h0];simp only[eU,dX,dQ,Bo,hf,VA]
end
end Go.VM
namespace Go.VM
open Go.RowKit
variable [cB]
section
variable {P:Program} {S:Nat->Prop} {w:World}
def VK {op:Op}{p:jU}{xs:List Operand}(h:wI P op=some (p,xs)):
  p.plain=true\/(∃f args tys,op= .call {callee:= .value (.func f),args:=args,argTypes:=tys}/\p= .call false f/\xs=args.toList)\/
  (∃x args tys,op= .call {callee:= .value x,args:=args,argTypes:=tys}/\p= .callv false/\xs=x::args.toList)\/
  (∃t n ps k,op= .buildSlice t n ps/\AS P t=some k/\(n*k<=16777216/\0<k/\ps.toList.map (·.1)=List.range n/\(sK P (P.elem t)).isSome=true)/\p= .bsl k/\xs=ps.toList.map (·.2)):=by
 unfold wI at h;split at h
 case h_14=>rename_i t n ps;right;right;right;cases hk:AS P t with|none=>rw[hk] at h;cases h|some k=>rw[hk] at h;simp only at h;split at h;rename_i hc;simp only[aH,cM] at h;exact⟨t,n,ps,k,rfl,hk,hc,h.1.symm,h.2.symm⟩;cases h
 case h_15=>rename_i f args tys;simp only[aH,cM] at h;exact .inr (.inl ⟨f,args,tys,rfl,h.1.symm,h.2.symm⟩)
 case h_16=>rename_i x args tys _;simp only[aH,cM] at h;exact .inr (.inr (.inl ⟨x,args,tys,rfl,h.1.symm,h.2.symm⟩))
 all_goals
  left;revert h;repeat' split
  all_goals(intro h;first |(cases h;done)|skip)
  all_goals first
   |(simp only[aH,cM] at h;rw[<-h.1];rfl)
   |skip
 all_goals simp only[gY,bL,Option.ite_none_right_eq_some,aH,cM] at h
 obtain⟨ks,_,h,_⟩:=h;rw[<-h];rfl;obtain⟨ks,_,h,_⟩:=h;rw[<-h];rfl;obtain⟨f,_,_,h,_⟩:=h;rw[<-h];rfl;obtain⟨f,_,_,h,_⟩:=h;rw[<-h];rfl;obtain⟨z,_,qs,_,pl,_,h,_⟩:=h;rw[<-h];rfl;obtain⟨z,_,ie,_,h,_⟩:=h;rw[<-h];rfl
def bW2 {draw:Bool}{p p':jU}(h:DA draw p=some p')(hp:p.plain=true):p'=p:=by unfold DA at h;split at h<;>first |(simp[jU.plain] at hp;done)|(cases h;rfl)
section
variable {o:aU} {aA:aG} {isF:List QI} {a0:Act} {E R:Nat->Prop} {defs:List (Tmp×Nat)} {is:List QI} {a:Act}
set_option maxHeartbeats 800000 in
def bJ0 (ho:eL P o){draw:Bool}(h:GF o aA isF a0 E R (dS w) defs is a w)(hl:(∀n v,iH aA n=some v->∃u,a0.tmps[n]? =some u/\aP (dS w) w u v)/\mV (dS w) w){op:Oper}{q:QI}(hq:Gg P draw defs is op=some q)
  (qN:Lm is q=true)(hg:GH o aA isF q.g)(hE:∀s∈q.srcs,∀j,s=some j->E j)(hR:∀t∈xZ q.x,R t){v:V}(hv:dJ o aA q.x=some v):
  f8 P ((execOp a.eval op).run P w) fun u w1=>Below w.heap.size w w1/\aP (dS w1) w1 u v:=by
 rcases bI9 h hl hq qN hg hE hR hv with⟨u,hu,hr⟩|⟨p,p',xs,vs,hp,hd,hr,pT⟩;rw[hr w];exact⟨cZ _ _,hu⟩;rcases VK hp with eF|⟨f,args,tys,aO,rfl,rfl⟩|⟨x,args,tys,aO,rfl,rfl⟩|⟨t,n,ps,k,aO,hk,hc,rfl,rfl⟩;have:=bW2 hd eF;subst this;obtain⟨u,hu,bY⟩:=VJ hp eF a.eval op rfl vs v hr pT;rw[bY w fun _ _=>rfl];exact⟨cZ _ _,hu⟩;simp only[DA,aH] at hd;subst hd;have lM:((o f vs).bind fun r=>if draw=true->r.uniq=true then some (frzt r) else none)=some v:=by
  match vs,pT with|[],h=>simpa[aS] using h|[x],h=>cases x<;>simpa[aS] using h|[x,y],h=>cases x<;>cases y<;>simpa[aS] using h|x::y::_::_,h=>cases x<;>simpa[aS] using h
 cases hy:o f vs with|none=>rw[hy] at lM;cases lM|some y=>rw[hy] at lM;simp only[aZ] at lM;split at lM;cases lM;refine bY4 (us:=args.toList.map a.eval) ho hy hl.2 hr ?_;have:=aO2 ho (ρ:=a.eval) (fun _=>rfl) aO hy w;rw[this];congr 2;apply w9.1;simp;cases lM
 simp only[DA,aH] at hd;subst hd;have lM:((AX o vs).bind fun r=>if draw=true->r.uniq=true then some (frzt r) else none)=some v:=by
  match vs,pT with|[],h=>simpa[aS] using h|[x],h=>cases x<;>simpa[aS] using h|[x,y],h=>cases x<;>cases y<;>simpa[aS] using h|x::y::_::_,h=>cases x<;>simpa[aS] using h
 cases hy:AX o vs with|none=>rw[hy] at lM;cases lM|some y=>rw[hy] at lM;simp only[aZ] at lM;split at lM;cases lM;obtain⟨f,us,zs,hz,Bo,bY⟩:=aO1 ho aO hr hy;exact bY4 ho hz hl.2 Bo (bY w);cases lM
 have hp':p'= .bsl k:=by cases draw with|true=>simp[DA] at hd|false=>simpa[DA] using hd.symm
 subst hp';have lM:(if vs.all (fun x=>x.cells.length==k&&x.cells.all V.cell) then some (V.l vs) else none)=some v:=by
  match vs,pT with|[],h=>simpa[aS] using h|[x],h=>cases x<;>simpa[aS] using h|[x,y],h=>cases x<;>cases y<;>simpa[aS] using h|x::y::_::_,h=>cases x<;>simpa[aS] using h
 split at lM;rename_i eG;cases lM;have yG:∀x∈vs,x.cells.length=k:=fun x hx=>by have:=eM.1 eG x hx;simp only[fA,pM] at this;exact this.1
 have PA:∀x∈cL vs,x.cell=true:=fun x hx=>by obtain⟨e,he,hx⟩:=sM.1 hx;have:=eM.1 eG e he;simp only[fA,pM] at this;exact eM.1 this.2 x hx
 obtain⟨e,hu⟩:∃e,P.underlying t=some (.slice e):=by unfold AS at hk;split at hk;rename_i e hu;exact⟨e,hu⟩;cases hk
 have gD:(P.info? e).map (·.size)=some k:=by simpa[AS,hu] using hk
 have iR:P.elem t=e:=by simp[Program.elem,hu]
 rw[iR] at hc;obtain⟨cells,hcr,cK,hn,bY⟩:=aO4 (w:=w) hu gD hc.1 hc.2.2.2 ps hc.2.2.1 a.eval vs (by simpa[DX,LC] using hr) yG;have hx:(execOp a.eval op).run P w= .ok (.value (.slice (some ⟨w.heap.size,0,none⟩) n n)) (w.alloc (.cells cells.toArray e)):=by have:=bY w;simp only[execOp,aO,dX,this,dQ,eU]
 rw[hx];refine⟨(cZ _ _).alloc (dD _) _,?_⟩;rw[<-hn];refine aP.mk_slice yG PA (vs:=cells) ?_ (dD _) (.inr ⟨_,rfl,?_,fun j u hj=> ?_⟩);exact hcr.move (fun b hb=>vU hb (by simp)) fun p hp=>Xb w _ p hp;simp[dS];have hh:(w.alloc (.cells cells.toArray e)).heap[w.heap.size]? =some (.cells cells.toArray e (0,0)):=LM w _;simp only[World.cell?,wZ,hh];unfold Addr.add;split;rename_i hj0;subst hj0;simpa using hj;simpa using hj;cases lM
def dR1 (ho:eL P o)(hS:∀b,S b->b<w.heap.size)(h:ES o aA isF a0 S defs is a w)(hl:(∀n v,iH aA n=some v->∃u,a0.tmps[n]? =some u/\aP S w u v)/\mV S w){op:Oper}{q:QI}(hq:Gg P true defs is op=some q)
  (qN:Lm is q=true)(hg:GH o aA isF q.g){v:V}(hv:dJ o aA q.x=some v):
  ∃u,aP S w u v/\∀w',Below w.heap.size w w'->Oper.quietUpon P (Below w.heap.size w) w' u ((execOp a.eval op).run P w'):=by
 rcases bI9 h hl hq qN hg (fun _ _ _ _=>trivial) (fun _ _=>trivial) hv with⟨u,hu,hr⟩|⟨p,p',xs,vs,hp,hd,hr,pT⟩;exact⟨u,hu,fun w' _=>by rw[hr w'];exact⟨rfl,rfl⟩⟩;rcases VK hp with eF|⟨f,args,tys,aO,rfl,rfl⟩|⟨x,args,tys,aO,rfl,rfl⟩|⟨t,n,ps,k,aO,hk,hc,rfl,rfl⟩;have:=bW2 hd eF;subst this;obtain⟨u,hu,bY⟩:=VJ hp eF a.eval op rfl vs v hr pT;exact⟨u,hu,fun w' hb=>by rw[bY w' fun p hp=>hb.cell (hS _ hp)];exact⟨rfl,rfl⟩⟩;simp only[DA,aH] at hd;subst hd;have lM:((o f vs).bind fun r=>if true=true->r.uniq=true then some (frzt r) else none)=some v:=by
  match vs,pT with|[],h=>simpa[aS] using h|[x],h=>cases x<;>simpa[aS] using h|[x,y],h=>cases x<;>cases y<;>simpa[aS] using h|x::y::_::_,h=>cases x<;>simpa[aS] using h
 cases hy:o f vs with|none=>rw[hy] at lM;cases lM|some y=>rw[hy] at lM;simp only[aZ] at lM;split at lM;rename_i t6;cases lM;refine bY5 (us:=args.toList.map a.eval) ho hy (t6 trivial) hS hl.2 hr fun w'=> ?_;have:=aO2 ho (ρ:=a.eval) (fun _=>rfl) aO hy w';rw[this];congr 2;apply w9.1;simp;cases lM
 simp only[DA,aH] at hd;subst hd;have lM:((AX o vs).bind fun r=>if true=true->r.uniq=true then some (frzt r) else none)=some v:=by
  match vs,pT with|[],h=>simpa[aS] using h|[x],h=>cases x<;>simpa[aS] using h|[x,y],h=>cases x<;>cases y<;>simpa[aS] using h|x::y::_::_,h=>cases x<;>simpa[aS] using h
 cases hy:AX o vs with|none=>rw[hy] at lM;cases lM|some y=>rw[hy] at lM;simp only[aZ] at lM;split at lM;rename_i t6;cases lM;obtain⟨f,us,zs,hz,Bo,bY⟩:=aO1 ho aO hr hy;exact bY5 ho hz (t6 trivial) hS hl.2 Bo bY;cases lM
 simp[DA] at hd
end
end
end Go.VM
namespace Go.VM
open Go.RowKit
variable [cB]
abbrev Tm:=Nat->Option Value
def fT (P:Program)(Im:Nat->Prop)(w:World)(aD:Nat)(aA:aG)(T:Tm)(u:Value):V->Prop
 | .al m=>T m=some u| .pe m i off _=>∃ad l c k,T m=some (.slice (some ad) l c)/\u= .pointer (some (ad.add (i*k+off)))/\∀y es,aF m aA=some y->frz y= .l es->∀e∈es,e.cells.length=k| .pb m off _=>∃ad,T m=some (.pointer (some ad))/\u= .pointer (some (ad.add off))| .ud=>True| .t ys=>∃us:List Value,u= .tuple us.toArray/\us.length=ys.length/\∀(j:Nat) u y,us[j]? =some u->ys[j]? =some y->y= .ud\/fL P Im w aD u y|x=>fL P Im w aD u x
def V.smp:V->Bool
 | .al _| .pe .. | .pb .. | .ud| .t _=>false|_=>true
def fT.res1 {P:Program}{Im:Nat->Prop}{w:World}{aD:Nat}{aA:aG}{T:Tm}{u:Value}{x:V}(hx:x.smp=true):fT P Im w aD aA T u x=fL P Im w aD u x:=by cases x<;>first |rfl|(simp[V.smp] at hx;done)
def cO (aA:aG)(T:Tm)(n:Nat):Option Nat->Nat->Prop
 |none,g=>∃x u,aF n aA=some x/\x.isOwn=true/\T n=some u/\dR u=some g|some j,g=>∃(ys:List V) (us:List Value) (y:V) (u:Value),aF n aA=some (.t ys)/\T n=some (.tuple us.toArray)/\ys[j]? =some y/\y.isOwn=true/\us[j]? =some u/\dR u=some g
structure d8 (P:Program) (Im:Nat->Prop) (w:World) (aD:Nat) (aA:aG) (T:Tm):Prop where
 ent:∀n x,aF n aA=some x->∃u,T n=some u/\fT P Im w aD aA T u x
 closed:∀n x m,aF n aA=some x->x.names=some m->∃y,aF m aA=some y/\y.names=none
 apart:∀n c n' c' g,cO aA T n c g->cO aA T n' c' g->n=n'/\c=c'
 glob:mV Im w
def kZ (n m:Nat)(x:V)(aA:aG):aF m (put n x aA)=if m=n then some x else aF m aA:=by induction aA with|nil=>simp[put,aF]|cons p aA ih=>simp only[put];split;simp only[aF];split;rename_i h1 h2;simp only[aF];by_cases h:m=n;simp[h];rw[aK h,aK h,aK (by rw[<-h2];exact h)];rename_i h1 h2;simp only[aF,ih];by_cases h:m=p.1;subst h;rw[aY rfl,aK (fun e=>h2 e.symm)];simp;simp[h]
def cH (aA:aG):Prop:=aA.Pairwise fun p q=>p.1<q.1
def cH.nil:cH []:=List.Pairwise.nil
def cH.filter {aA:aG}(h:cH aA)(f:Nat×V->Bool):cH (aA.filter f):=List.Pairwise.filter f h
def dJ3 {n:Nat}{x:V}{aA:aG}{p:Nat×V}(h:p∈put n x aA):p=(n,x)\/p∈aA:=by induction aA with|nil=>simp[put] at h;exact .inl h|cons q aA ih=>simp only[put] at h;split at h;rcases eP.1 h with h|h;exact .inl h;exact .inr h;split at h;rcases eP.1 h with h|h;exact .inl h;exact .inr (dL _ h);rcases eP.1 h with h|h;exact .inr (h▸dC ..);rcases ih h with h|h;exact .inl h;exact .inr (dL _ h)
def cH.put {aA:aG}(h:cH aA)(n:Nat)(x:V):cH (put n x aA):=by induction aA with|nil=>simp[VM.put,cH]|cons q aA ih=>have h':=vT.1 h;simp only[VM.put];split;rename_i bE;refine vT.2 ⟨fun p hp=> ?_,h⟩;rcases eP.1 hp with rfl|hp;exact bE;exact Nat.lt_trans bE (h'.1 p hp);split;rename_i h1 h2;subst h2;exact vT.2 ⟨h'.1,h'.2⟩;rename_i h1 h2;refine vT.2 ⟨fun p hp=> ?_,ih h'.2⟩;rcases dJ3 hp with rfl|hp;show q.1<n;omega;exact h'.1 p hp
def Fc {n:Nat}{x:V}:∀{aA:aG},aF n aA=some x->(n,x)∈aA
 |p::aA,h=>by simp only[aF] at h;split at h;rename_i hn;cases h;subst hn;exact dC ..;exact dL _ (Fc h)
def V2 {n:Nat}{x:V}:∀{aA:aG},cH aA->(n,x)∈aA->aF n aA=some x
 |p::aA,hs,h=>by have fR:=vT.1 hs;simp only[aF];rcases eP.1 h with h|h;subst h;simp;have:=fR.1 _ h;simp only at this;rw[aK (by omega)];exact V2 fR.2 h
def Rk {aA:aG}(hs:cH aA)(f:Nat×V->Bool)(m:Nat):aF m (aA.filter f)=(aF m aA).bind fun x=>if f (m,x) then some x else none:=by
 cases h:aF m aA with
 |none=>cases h2:aF m (aA.filter f) with|none=>rfl|some x=>have:=V2 hs (vS.1 (Fc h2)).1;rw[h] at this;cases this
 |some x=>simp only[aZ];split;rename_i hf;exact V2 (hs.filter f) (vS.2 ⟨Fc h,hf⟩);rename_i hf;cases h2:aF m (aA.filter f) with|none=>rfl|some y=>obtain⟨h3,h4⟩:=vS.1 (Fc h2);have:=V2 hs h3;rw[h] at this;cases this;exact absurd h4 hf
def uH {aA:aG}(hs:cH aA)(n m:Nat):aF m (cN n aA)=(aF m aA).bind fun x=>if x.names=some n then none else some x:=by unfold cN;rw[Rk hs];cases aF m aA with|none=>rfl|some x=>simp only[aZ];by_cases h:x.names=some n<;>simp[h]
def f' {aA:aG}(hs:cH aA)(n m:Nat):aF m (eH n aA)=if m=n then none else aF m aA:=by unfold eH;rw[Rk hs];cases aF m aA with|none=>simp|some x=>simp only[aZ];by_cases h:m=n<;>simp[h]
def cH.put' {aA:aG}(h:cH aA)(n:Nat)(x:V):cH (put' n x aA):=by unfold VM.put';split;exact h.put n x;exact(h.filter _).put n x
def gJ {aA:aG}(hs:cH aA)(n m:Nat)(x:V):aF m (put' n x aA)=if m=n then some x else match aF n aA with|none=>aF m aA|some _=>(aF m aA).bind fun y=>if y.names=some n then none else some y:=by unfold VM.put';cases h:aF n aA with|none=>simp only[kZ]|some y=>simp only[kZ,uH hs]
end Go.VM
namespace Go.VM
open Go.RowKit
variable [cB]
section
variable {P:Program} {Im:Nat->Prop} {w w':World} {aD:Nat} {aA:aG} {T T':Tm}
def GI.move {e:TypeId}{es:List V}{v:Value}(h:GI P Im w aD e es v){Im':Nat->Prop}(hI:∀b,Im b->Im' b)(hw:∀b,b<w.heap.size->w'.heap[b]? =w.heap[b]?)(gF:∀b,Im b->b<w.heap.size):GI P Im' w' aD e es v:=by obtain⟨vs,⟨hl,hv⟩,hk,h1,hr⟩:=h;refine⟨vs,⟨hl,?_⟩,hk,h1,hr.move hI fun p hp=>CN (hw _ (gF _ hp))⟩;rcases hv with h|⟨g,cap,cur,h1,h2,hh,h3⟩;exact .inl h;exact .inr ⟨g,cap,cur,h1,h2,(hw g (j6.1 hh).1).trans hh,h3⟩
def P'.move {cs:List V}{v:Value}(h:P' Im w aD cs v){Im':Nat->Prop}(hI:∀b,Im b->Im' b)(hw:∀b,b<w.heap.size->w'.heap[b]? =w.heap[b]?)(gF:∀b,Im b->b<w.heap.size):P' Im' w' aD cs v:=by obtain⟨g,vs,ty,h1,h2,hh,h3,hr⟩:=h;exact⟨g,vs,ty,h1,h2,(hw g (j6.1 hh).1).trans hh,h3,hr.move hI fun p hp=>CN (hw _ (gF _ hp))⟩
def XP.move {ks vs:List V}{v:Value}(h:XP w aD ks vs v)(hw:∀b,b<w.heap.size->w'.heap[b]? =w.heap[b]?):XP w' aD ks vs v:=by obtain⟨g,es,clock,h1,h2,hh,h3⟩:=h;exact⟨g,es,clock,h1,h2,(hw g (j6.1 hh).1).trans hh,h3⟩
def fL.move {v:Value}{x:V}(h:fL P Im w aD v x){Im':Nat->Prop}(hI:∀b,Im b->Im' b)(hN:x.isOwn=true->∀g,dR v=some g->¬Im' g)(hw:∀b,b<w.heap.size->w'.heap[b]? =w.heap[b]?)(gF:∀b,Im b->b<w.heap.size):fL P Im' w' aD v x:=by cases x with|ow e es=>exact⟨h.1.move hI hw gF,hN rfl⟩|bx cs=>exact⟨h.1.move hI hw gF,hN rfl⟩|mp ks vs=>exact⟨h.1.move hw,hN rfl⟩|al n=>exact h|pe a b c d=>exact h|pb a b c=>exact h|t ys=>exact h|ud=>exact h|_=>exact aP.move h hI fun p hp=>CN (hw _ (gF _ hp))
def fT.move {u:Value}{x:V}(h:fT P Im w aD aA T u x){Im':Nat->Prop}(hI:∀b,Im b->Im' b)(hN:x.isOwn=true->∀g,dR u=some g->¬Im' g)
  (hNt:∀ys us,x= .t ys->u= .tuple us->∀(j:Nat) y u,ys[j]? =some y->us[j]? =some u->y.isOwn=true->∀g,dR u=some g->¬Im' g)
  (hw:∀b,b<w.heap.size->w'.heap[b]? =w.heap[b]?)(gF:∀b,Im b->b<w.heap.size):fT P Im' w' aD aA T u x:=by
 by_cases hs:x.smp=true;rw[fT.res1 hs] at h⊢;exact h.move hI hN hw gF;cases x with
 |t ys=>obtain⟨us,hu,hl,hh⟩:=h;refine⟨us,hu,hl,fun j v y hj hy=> ?_⟩;rcases hh j v y hj hy with h|h;exact .inl h;exact .inr (h.move hI (fun ho g hg=>hNt ys us.toArray rfl hu j y v hy (by simpa using hj) ho g hg) hw gF)
 |al n=>exact h|pe a b c d=>exact h|pb a b c=>exact h|ud=>exact h|_=>exact absurd rfl hs
def d8.move (h:d8 P Im w aD aA T){Im':Nat->Prop}(hI:∀b,Im b->Im' b)(hN:∀n c g,cO aA T n c g->¬Im' g)(hw:∀b,b<w.heap.size->w'.heap[b]? =w.heap[b]?)(gF:∀b,Im b->b<w.heap.size):d8 P Im' w' aD aA T:=by refine⟨fun n x hx=> ?_,h.closed,h.apart,h.glob.move hI fun p hp=>by simp only[World.cell?,hw _ (gF _ hp)]⟩;obtain⟨u,hu,he⟩:=h.ent n x hx;refine⟨u,hu,he.move hI (fun ho g hg=>hN n none g ⟨x,u,hx,ho,hu,hg⟩) (fun ys us Aq iD j y v hy hv ho g hg=> ?_) hw gF⟩;subst Aq;subst iD;exact hN n (some j) g ⟨ys,us.toList,y,v,hx,by simpa using hu,hy,ho,by simpa using hv,hg⟩
def cO.lt (h:d8 P Im w aD aA T){n:Nat}{c:Option Nat}{g:Nat}(ho:cO aA T n c g):g<w.heap.size/\aD<=g/\¬Im g:=by
 have key:∀(u:Value) (x:V),x.isOwn=true->dR u=some g->fL P Im w aD u x->g<w.heap.size/\aD<=g/\¬Im g:=by
  intro u x hx hg hr;cases x with
  |ow e es=>obtain⟨⟨vs,⟨_,hv⟩,_⟩,hn⟩:=hr;rcases hv with⟨rfl,_⟩|⟨g',cap,cur,rfl,hb,hh,_⟩;simp[dR] at hg;simp only[dR,aH] at hg;subst hg;exact⟨(j6.1 hh).1,hb,hn _ rfl⟩
  |bx cs=>obtain⟨⟨g',vs,ty,rfl,hb,hh,_⟩,hn⟩:=hr;simp only[dR,aH] at hg;subst hg;exact⟨(j6.1 hh).1,hb,hn _ rfl⟩
  |mp ks vs=>obtain⟨⟨g',es,c,rfl,hb,hh,_⟩,hn⟩:=hr;simp only[dR,aH] at hg;subst hg;exact⟨(j6.1 hh).1,hb,hn _ rfl⟩
  |_=>simp[V.isOwn] at hx
 cases c with
 |none=>obtain⟨x,u,hx,cA,hu,hg⟩:=ho;obtain⟨u',cP,he⟩:=h.ent n x hx;rw[hu] at cP;cases cP;refine key u x cA hg ?_;cases x<;>first |exact he|(simp[V.isOwn] at cA;done)
 |some j=>
  obtain⟨ys,us,y,u,hx,hT,hy,cA,hu,hg⟩:=ho;obtain⟨u',cP,us',F1,Cn,he3⟩:=h.ent n _ hx;rw[hT] at cP;cases cP;have:us'=us:=by simpa using F1.symm
  subst this;rcases he3 j u y hu hy with h1|h1;subst h1;simp[V.isOwn] at cA;exact key u y cA hg h1
def d8.congr (h:d8 P Im w aD aA T)(hT:∀n x,aF n aA=some x->T' n=T n):d8 P Im w aD aA T':=by
 have ho:∀n c g,cO aA T' n c g->cO aA T n c g:=by
  intro n c g h;cases c with
  |none=>obtain⟨x,u,hx,h1,h2,h3⟩:=h;exact⟨x,u,hx,h1,(hT n x hx)▸h2,h3⟩
  |some j=>obtain⟨ys,us,y,u,hx,h1,h2⟩:=h;exact⟨ys,us,y,u,hx,(hT n _ hx)▸h1,h2⟩
 refine⟨fun n x hx=> ?_,h.closed,fun n c n' c' g h1 h2=>h.apart n c n' c' g (ho _ _ _ h1) (ho _ _ _ h2),h.glob⟩;obtain⟨u,hu,he⟩:=h.ent n x hx;refine⟨u,(hT n x hx).trans hu,?_⟩;cases x with
 |al m=>obtain⟨y,hy,_⟩:=h.closed n _ m hx rfl;exact(hT m y hy).trans he
 |pe m i off sz=>obtain⟨y,hy,_⟩:=h.closed n _ m hx rfl;obtain⟨ad,l,c,k,h1,h2⟩:=he;exact⟨ad,l,c,k,(hT m y hy).trans h1,h2⟩
 |pb m off sz=>obtain⟨y,hy,_⟩:=h.closed n _ m hx rfl;obtain⟨ad,h1,h2⟩:=he;exact⟨ad,(hT m y hy).trans h1,h2⟩
 |_=>exact he
def d8.sub {aN:aG}(h:d8 P Im w aD aA T)(hs:∀n x,aF n aN=some x->aF n aA=some x)(hc:∀n x m,aF n aN=some x->x.names=some m->∃y,aF m aN=some y/\y.names=none):d8 P Im w aD aN T:=by
 have ho:∀n c g,cO aN T n c g->cO aA T n c g:=by
  intro n c g h;cases c with
  |none=>obtain⟨x,u,hx,h⟩:=h;exact⟨x,u,hs n x hx,h⟩
  |some j=>obtain⟨ys,us,y,u,hx,h⟩:=h;exact⟨ys,us,y,u,hs n _ hx,h⟩
 refine⟨fun n x hx=> ?_,hc,fun n c n' c' g h1 h2=>h.apart n c n' c' g (ho _ _ _ h1) (ho _ _ _ h2),h.glob⟩;obtain⟨u,hu,he⟩:=h.ent n x (hs n x hx);refine⟨u,hu,?_⟩;cases x with
 |pe m i off sz=>obtain⟨ad,l,c,k,h1,h2,h3⟩:=he;exact⟨ad,l,c,k,h1,h2,fun y es hy=>h3 y es (hs m y hy)⟩
 |_=>exact he
def d8.put (h:d8 P Im w aD aA T)(hs:cH aA)(n:Nat)(x:V)(u:Value)(hT:T' n=some u)(hT':∀m y,m≠n->aF m aA=some y->T' m=T m)
  (hx:fT P Im w aD (put' n x aA) T' u x)(jQ:∀m,x.names=some m->m≠n/\∃y,aF m aA=some y/\y.names=none)
  (cA:∀c g,cO (put' n x aA) T' n c g->∀n' c',n'≠n->¬cO aA T n' c' g)(FV:∀c c' g,cO (put' n x aA) T' n c g->cO (put' n x aA) T' n c' g->c=c'):d8 P Im w aD (put' n x aA) T':=by
 have fQ:∀m y,m≠n->aF m (put' n x aA)=some y->aF m aA=some y/\y.names≠some n:=by
  intro m y hm hy;rw[gJ hs,aK hm] at hy;cases hn:aF n aA with
  |none=>rw[hn] at hy;refine⟨hy,fun e=> ?_⟩;obtain⟨z,hz,_⟩:=h.closed m y n hy e;rw[hn] at hz;cases hz
  |some z=>rw[hn] at hy;simp only at hy;cases FW:aF m aA with|none=>rw[FW] at hy;cases hy|some y'=>rw[FW] at hy;simp only[aZ] at hy;split at hy;cases hy;cases hy;exact⟨rfl,‹_›⟩
 have hget':∀m y,m≠n->aF m aA=some y->y.names≠some n->aF m (put' n x aA)=some y:=by intro m y hm hy bM;rw[gJ hs,aK hm];cases hn:aF n aA with|none=>exact hy|some z=>simp only[hy,aZ];rw[aK bM]
 have Gu:∀m c g,m≠n->cO (put' n x aA) T' m c g->cO aA T m c g:=by
  intro m c g hm ho;cases c with
  |none=>obtain⟨y,v,hy,h1,h2,h3⟩:=ho;have:=(fQ m y hm hy).1;exact⟨y,v,this,h1,(hT' m y hm this)▸h2,h3⟩
  |some j=>obtain⟨ys,us,y,v,hy,h1,h2⟩:=ho;have:=(fQ m _ hm hy).1;exact⟨ys,us,y,v,this,(hT' m _ hm this)▸h1,h2⟩
 refine⟨fun m y hy=> ?_,fun m y k hy hk=> ?_,fun m c m' c' g h1 h2=> ?_,h.glob⟩;by_cases hm:m=n;subst hm;rw[gJ hs,aY rfl] at hy;cases hy;exact⟨u,hT,hx⟩;obtain⟨eS,bM⟩:=fQ m y hm hy;obtain⟨v,hv,he⟩:=h.ent m y eS;refine⟨v,(hT' m y hm eS).trans hv,?_⟩;cases y with
 |al k=>have mS:k≠n:=fun e=>bM (by rw[e];rfl);obtain⟨z,hz,_⟩:=h.closed m _ k eS rfl;exact(hT' k z mS hz).trans he
 |pe k i off sz=>have mS:k≠n:=fun e=>bM (by rw[e];rfl);obtain⟨z,hz,_⟩:=h.closed m _ k eS rfl;obtain⟨ad,l,c,kk,h1,h2,h3⟩:=he;exact⟨ad,l,c,kk,(hT' k z mS hz).trans h1,h2,fun z' es gC=>h3 z' es (fQ k z' mS gC).1⟩
 |pb k off sz=>have mS:k≠n:=fun e=>bM (by rw[e];rfl);obtain⟨z,hz,_⟩:=h.closed m _ k eS rfl;obtain⟨ad,h1,h2⟩:=he;exact⟨ad,(hT' k z mS hz).trans h1,h2⟩
 |_=>exact he
 by_cases hm:m=n;subst hm;rw[gJ hs,aY rfl] at hy;cases hy;obtain⟨mS,z,hz,jZ⟩:=jQ k hk;exact⟨z,hget' k z mS hz (by rw[jZ];simp),jZ⟩;obtain⟨eS,bM⟩:=fQ m y hm hy;have mS:k≠n:=fun e=>bM (by rw[<-e];exact hk);obtain⟨z,hz,jZ⟩:=h.closed m y k eS hk;exact⟨z,hget' k z mS hz (by rw[jZ];simp),jZ⟩;by_cases hm:m=n;by_cases FW:m'=n;subst hm;subst FW;exact⟨rfl,FV _ _ _ h1 h2⟩;subst hm;exact absurd (Gu m' c' g FW h2) (cA c g h1 m' c' FW);by_cases FW:m'=n;subst FW;exact absurd (Gu m c g hm h1) (cA c' g h2 m c hm);exact h.apart m c m' c' g (Gu m c g hm h1) (Gu m' c' g FW h2)
end
end Go.VM
namespace Go.VM
open Go.RowKit
variable [cB]
structure FI (P:Program) (nt:Nat) (keep:List Nat) (S:Nat->Prop) (aD:Nat) (w0:World) (aA:aG) (a:Act) (w:World):Prop where
 srt:cH aA
 size:a.tmps.size=nt
 defers:a.defers=[]
 below:Below aD w0 w
 kept:∀b,S b->w.heap[b]? =w0.heap[b]?
 bsz:aD<=w.heap.size
 keys:∀n x,aF n aA=some x->n∈keep/\n<nt
 ents:∃Im:Nat->Prop,(∀b,S b->Im b)/\(∀b,Im b->(S b\/aD<=b)/\b<w.heap.size)/\d8 P Im w aD aA (fun n=>a.tmps[n]?)
section
variable {P:Program} {Im:Nat->Prop} {w w':World} {aD:Nat} {aA:aG} {T T':Tm}
def IH {x v:V}(h:BK x=some v):x.smp=true/\v=frz x:=by cases x<;>simp_all[BK,V.smp]
def V5 (h:d8 P Im w aD aA T)(gF:∀b,Im b->b<w.heap.size){n:Nat}{x v:V}(hx:aF n aA=some x)(hv:BK x=some v):∃u,T n=some u/\aP (dS w) w u v:=by obtain⟨hs,rfl⟩:=IH hv;obtain⟨u,hu,he⟩:=h.ent n x hx;rw[fT.res1 hs] at he;exact⟨u,hu,he.frz gF fun b _ hb=>hb⟩
def YN {S:Nat->Prop}{ad:Addr}{vs:List Value}{cs r:List V}{off n:Nat}(hS:S ad.block)(hc:∀x∈cs,x.cell=true)(hr:aX S w vs cs)(hu:∀(j:Nat) u,vs[j]? =some u->w.cell? (ad.add j)=some u)(hs:sub cs off n=some r):
  aP S w (.pointer (some (ad.add off))) (.r r):=by
 have nC:=hr.sub hs;obtain⟨_,rfl⟩:=Hy hs;refine .r _ _ _ (by rw[wZ];exact hS) (fun x hx=>hc x (qX (qF hx))) nC.1 (fun j u hj=> ?_) nC.2;rw[qE] at hj;split at hj;rw[xD] at hj;rw[EQ];exact hu _ u hj;cases hj
def bV7 {S:Nat->Prop}{ad:Addr}{l c k i off n:Nat}{es:List V}{e:V}{r:List V}(h:aP S w (.slice (some ad) l c) (.l es))(hk:∀e∈es,e.cells.length=k)(he:es[i]? =some e)(hs:sub e.cells off n=some r):
  aP S w (.pointer (some (ad.add (i*k+off)))) (.r r):=by
 obtain⟨a,c',k',vs,hv,_,dG,hr,hc,hd⟩:=h.slice;rcases hd with rfl|⟨ad',rfl,hS,hu⟩;simp at he;simp only[UG,aH] at hv;obtain⟨rfl,rfl,rfl⟩:=hv;rw[<-KS hk he] at hs;have h1:aP S w (.pointer (some ((ad.add (i*k)).add off))) (.r r):=YN (vs:=(vs.drop (i*k)).take k) (by rw[wZ];exact hS) (fun x hx=>dG x (qX (qF hx))) ((hr.drop _).take _) (fun j u hj=>by
  rw[qE] at hj;split at hj;rw[xD] at hj;rw[EQ];exact hu _ u hj;cases hj) hs
 rwa[EQ] at h1
def RK (h:d8 P Im w aD aA T)(gF:∀b,Im b->b<w.heap.size){n:Nat}{v:V}(hv:iH aA n=some v):∃u,T n=some u/\aP (dS w) w u v:=by
 unfold iH at hv;cases hx:aF n aA with
 |none=>rw[hx] at hv;cases hv
 |some x=>
  rw[hx] at hv;by_cases hs:x.names=none
  ·refine V5 h gF hx ?_;cases x<;>first |exact hv|(simp[V.names] at hs;done)
  obtain⟨u,hu,he⟩:=h.ent n x hx;refine⟨u,hu,?_⟩;cases x with
  |al m=>simp only at hv;cases hm:aF m aA with|none=>rw[hm] at hv;cases hv|some y=>rw[hm] at hv;obtain⟨u',cP,hr⟩:=V5 h gF hm hv;have:T m=some u:=he;rw[this] at cP;cases cP;exact hr
  |pe m i off sz=>
   simp only at hv;cases hm:aF m aA with
   |none=>rw[hm] at hv;cases hv
   |some y=>
    rw[hm] at hv;simp only[aZ] at hv;cases hy:BK y with
    |none=>rw[hy] at hv;cases hv
    |some z=>
     rw[hy] at hv;cases z with
     |l es=>simp only at hv;cases AJ:es[i]? with|none=>rw[AJ] at hv;cases hv|some e=>rw[AJ] at hv;simp only[aZ] at hv;cases nO:sub e.cells off sz with|none=>rw[nO] at hv;cases hv|some r=>rw[nO] at hv;simp only[eB,aH] at hv;subst hv;obtain⟨ad,l,c,k,h1,rfl,h3⟩:=he;obtain⟨u',cP,hr⟩:=V5 h gF hm hy;rw[h1] at cP;cases cP;exact bV7 hr (h3 y es hm (IH hy).2.symm) AJ nO
     |_=>cases hv
  |pb m off sz=>
   simp only at hv;cases hm:aF m aA with
   |none=>rw[hm] at hv;cases hv
   |some y=>
    rw[hm] at hv;simp only[aZ] at hv;cases hy:BK y with
    |none=>rw[hy] at hv;cases hv
    |some z=>
     rw[hy] at hv;cases z with
     |r cs=>simp only at hv;cases nO:sub cs off sz with|none=>rw[nO] at hv;cases hv|some r=>rw[nO] at hv;simp only[eB,aH] at hv;subst hv;obtain⟨ad,h1,rfl⟩:=he;obtain⟨u',cP,hr⟩:=V5 h gF hm hy;rw[h1] at cP;cases cP;obtain⟨ad',vs,dZ,hS,hc,hr,dG⟩:=hr.ptr;simp only[UF,aH] at dZ;subst dZ;exact YN hS hc hr dG nO
     |_=>cases hv
  |_=>simp[V.names] at hs
end
end Go.VM
namespace Go.VM
variable [cB]
open Go.RowKit
section
variable {P:Program} {o:aU} {aA:aG} {draw:Bool} {aJ:List Oper}
def OY {op:Oper}{r:List Oper}{defs dF:List (Tmp×Nat)}{is iF:List QI}(h:tX P draw aJ (op::r) defs is=some (dF,iF)):
  ∃d q,op.dst=some d/\Ri aJ defs op.guard=true/\Gg P draw defs is op=some q/\Lm is q=true/\tX P draw aJ r ((d,is.length)::defs) (is++[q])=some (dF,iF):=by
 simp only[tX] at h;cases hd:op.dst with
 |none=>rw[hd] at h;cases h
 |some d=>
  rw[hd] at h;simp only at h;split at h;cases hq:Gg P draw defs is op with|none=>rw[hq] at h;cases h|some q=>rw[hq] at h;simp only[aZ] at h;split at h;exact⟨d,q,rfl,‹_›,rfl,‹_›,h⟩;cases h
  cases h
def OX:∀(r:List Oper) (defs dF:List (Tmp×Nat)) (is iF:List QI),tX P draw aJ r defs is=some (dF,iF)->∃tl,iF=is++tl/\tl.length=r.length
 |[],_,_,is,iF,h=>by simp only[tX,aH,cM] at h;exact⟨[],by simp[h.2],rfl⟩|op::r,defs,dF,is,iF,h=>by obtain⟨d,q,_,_,_,_,h⟩:=OY h;obtain⟨tl,h1,h2⟩:=OX r _ _ _ _ h;exact⟨q::tl,by rw[h1];simp,by simp[h2]⟩
def SC {d:Tmp}{j:Nat}{defs:List (Tmp×Nat)}(t:Tmp):pI ((d,j)::defs) t=if d=t then some j else pI defs t:=rfl
def Yi:∀(r:List Oper) (defs dF:List (Tmp×Nat)) (is iF:List QI),tX P draw aJ r defs is=some (dF,iF)->(∀t j,pI defs t=some j->j<is.length)->(∀(k:Nat) q,is[k]? =some q->XK iF q)->
  ∀(k:Nat) q,iF[k]? =some q->XK iF q
 |[],_,_,is,iF,h,_,hs=>by simp only[tX,aH,cM] at h;rw[<-h.2] at hs⊢;exact hs
 |op::r,defs,dF,is,iF,h,bE,hs=>by
  obtain⟨d,q,_,_,hq,_,mF⟩:=OY h;obtain⟨tl,h1,_⟩:=OX _ _ _ _ _ h;have Ow:∀j,j<is.length->is[j]? =iF[j]? :=fun j hj=>by rw[h1,BU hj]
  refine Yi r _ _ _ _ mF (fun t j hd=> ?_) fun k q' hk=> ?_;rw[SC] at hd;split at hd;cases hd;simp;have:=bE t j hd;simp;omega;by_cases gD:k<is.length;rw[BU gD] at hk;exact hs k q' hk;rw[D6 (by omega)] at hk;cases hz:k - is.length with|zero=>rw[hz] at hk;simp only[D7,aH] at hk;subst hk;exact(VL bE Ow hq).1|succ m=>rw[hz] at hk;simp at hk
section
variable {isF:List QI} {a0:Act} {E R:Nat->Prop} {S:Nat->Prop} {defs:List (Tmp×Nat)} {is:List QI} {a:Act} {w:World}
def bZ5 {u:Value}{v:V}(h:aP S w u v)(b:Bool):u= .bool b↔v= .b b:=by cases h<;>simp
def Xf (h:GF o aA isF a0 E R S defs is a w)(hD:∀(i:Nat) q,isF[i]? =some q->GH o aA isF q.g->∃v,dJ o aA q.x=some v){op:Oper}(cR:Ri aJ defs op.guard=true)(hE:∀g b,op.guard=some (g,b)->E g):
  Region.wanted op (yielded aJ.toArray a.tmps)=true↔GH o aA isF op.guard:=by
 unfold Region.wanted;unfold Ri at cR;cases hg:op.guard with
 |none=>simp only[true_iff];exact .top
 |some gb=>
  obtain⟨g,b⟩:=gb;rw[hg] at cR;simp only at cR;cases hd:(aJ[g]?).bind (·.dst) with
  |none=>rw[hd] at cR;cases cR
  |some d=>
   rw[hd] at cR;simp only[pM] at cR;have h4:=h.2.2.2.2 d;rw[cR] at h4;obtain⟨q,hq,hy,hn⟩:=h4;have hEg:=hE g b hg;have bE:=(fE.1 hq).1;have Bu:isF[g]? =some q:=(h.2.2.1 g bE).symm.trans hq;have yB:yielded aJ.toArray a.tmps g=match a.tmps[d]? with |some (.bool b)=>some b|_=>none:=by unfold yielded;simp only[CL];rw[hd];rfl
   simp only[yB];by_cases nR:GH o aA isF q.g;obtain⟨v,hv⟩:=hD g q Bu nR;obtain⟨u,hu,hr⟩:=hy hEg nR v hv;rw[hu];constructor;intro hw;have:u= .bool b:=by cases u<;>simp_all
   exact .dn g b q Bu nR (by rw[hv,(bZ5 hr b).1 this]);intro hw;cases hw with
   |dn _ _ q2 h2 sD Cd=>
    rw[Bu] at h2;cases h2;rw[hv] at Cd;have:v= .b b:=by simpa using Cd
    have:=(bZ5 hr b).2 this;subst this;simp
   have:=hn hEg nR;constructor;intro hw;exfalso;cases hu:a.tmps[d]? with|none=>rw[hu] at hw;simp at hw|some u=>rw[hu] at hw;cases u<;>simp_all
   intro hw;cases hw with|dn _ _ q2 h2 sD Cd=>rw[Bu] at h2;cases h2;exact absurd sD nR
def ES.step (h:ES o aA isF a0 S defs is a w){d:Tmp}{q:QI}(hd:d<a0.tmps.size)(hq:isF[is.length]? =some q)(u:Value)(hu:GH o aA isF q.g->∀v,dJ o aA q.x=some v->aP S w u v)(hn:¬GH o aA isF q.g->∀b,u≠ .bool b):
  ES o aA isF a0 S ((d,is.length)::defs) (is++[q]) (a.put (some d) u) w:=by
 obtain⟨h1,h2,h3,EL,h4⟩:=h;refine⟨by simpa[Act.put] using h1,h2,fun j hj=> ?_,?_,fun t=> ?_⟩;by_cases jH:j<is.length;rw[BU jH];exact h3 j jH;have:j=is.length:=by simp at hj;omega
 subst this;rw[D6 (dD _)];simp[hq];have:=(fE.1 hq).1;simp;omega;rw[SC];by_cases ht:d=t;subst ht;rw[aY rfl];have fQ:(a.put (some d) u).tmps[d]? =some u:=by simp[Act.put,h1,hd]
 refine⟨q,by simp,fun _ hg v hv=>⟨u,fQ,hu hg v hv⟩,fun _ hg b=> ?_⟩;rw[fQ];intro e;exact hn hg b (by simpa using e);rw[aK ht];have fQ:(a.put (some d) u).tmps[t]? =a.tmps[t]? :=by simp[Act.put,ht]
 have:=h4 t;split at this;rename_i gU;simp only[fQ];exact this;rename_i j gU;simp only[fQ];obtain⟨q',dE,hy,kC⟩:=this;exact⟨q',by rw[BU (fE.1 dE).1];exact dE,hy,kC⟩
end
end
end Go.VM
namespace Go.VM
open Go.RowKit
variable [cB]
section
variable {P:Program} {o:aU} {aA:aG} {bB:List Oper} {isF:List QI} {a0:Act} {dF:List (Tmp×Nat)}
def Ib {α:Type}{l:List α}{n:Nat}{x:α}{r:List α}(h:l.drop n=x::r):l[n]? =some x/\l.drop (n+1)=r:=by
 have h1:(l.drop n)[0]? =some x:=by rw[h];rfl
 rw[xD] at h1;refine⟨by simpa using h1,?_⟩;rw[<-List.tail_drop,h];rfl
def bF0 (ho:eL P o){draw:Bool}{Q:Exit->Act->World->Prop}(hD:∀(i:Nat) q,isF[i]? =some q->GH o aA isF q.g->∃v,dJ o aA q.x=some v):
  ∀(r:List Oper) (defs:List (Tmp×Nat)) (is:List QI) (a:Act) (w:World),tX P draw bB r defs is=some (dF,isF)->bB.drop is.length=r->(∀op∈r,∀d,op.dst=some d->d<a0.tmps.size)->
  ES o aA isF a0 (dS w) defs is a w->((∀n v,iH aA n=some v->∃u,a0.tmps[n]? =some u/\aP (dS w) w u v)/\mV (dS w) w)->
  (∀a' w',Below w.heap.size w w'->ES o aA isF a0 (dS w') dF isF a' w'->Q .normal a' w')->wpOps P bB.toArray Q (List.range' is.length r.length) a w
 |[],defs,is,a,w,h,_,_,hI,_,hQ=>by simp only[tX,aH,cM] at h;obtain⟨rfl,rfl⟩:=h;exact hQ a w (cZ _ _) hI
 |op::r,defs,is,a,w,h,yE,bE,hI,hl,hQ=>by
  obtain⟨d,q,hd,cR,hq,qN,mF⟩:=OY h;obtain⟨tl,h1,_⟩:=OX _ _ _ _ _ mF;have Bu:isF[is.length]? =some q:=by rw[h1,BU (by simp)];simp
  obtain⟨hat,Co⟩:=Ib yE;have hg:=(VL (fun t j hd=>aF0 hI hd) hI.2.2.1 hq).2;have hw:=Xf hI hD cR (fun _ _ _=>trivial);have bT:(is++[q]).length=is.length+1:=by simp
  simp only[fY,GP,wpOps,CL,hat];have ML:∀(u:Value) (w1:World),Below w.heap.size w w1->(GH o aA isF q.g->∀v,dJ o aA q.x=some v->aP (dS w1) w1 u v)->(¬GH o aA isF q.g->∀b,u≠ .bool b)->
    wpOps P bB.toArray Q (List.range' (is.length+1) r.length) (a.put op.dst u) w1:=by
   intro u w1 hb hu hn;have cE:=(show ES o aA isF a0 (dS w1) defs is a w1 from hI.move (dS.below hb) fun p hp=>hb.cell hp).step (bE op (dC ..) d hd) Bu u hu hn;rw[hd];have:=bF0 ho hD r _ (is++[q]) (a.put (some d) u) w1 mF (by rw[bT];exact Co) (fun eX h'=>bE eX (dL _ h')) cE
    ⟨fun n v hv=>let ⟨u,h1,h2⟩:=hl.1 n v hv;⟨u,h1,h2.move (dS.below hb) fun p hp=>hb.cell hp⟩,hl.2.move (dS.below hb) fun p hp=>hb.cell hp⟩
    (fun a' w' fD F7=>hQ a' w' (hb.trans (fD.mono hb.size)) F7)
   rw[bT] at this;exact this
  split;rename_i r9;have nR:=hw.1 r9;rw[<-hg] at nR;obtain⟨v,hv⟩:=hD _ q Bu nR;left;refine f8.wp ?_;have:=bJ0 ho hI hl hq qN nR (fun _ _ _ _=>trivial) (fun _ _=>trivial) hv;revert this;generalize (execOp a.eval op).run P w=res;intro eA;unfold f8 at eA⊢;split at eA;exact ML _ _ eA.1 (fun _ v' dZ=>by rw[hv] at dZ;cases dZ;exact eA.2) fun oD=>absurd nR oD;exact ML _ _ eA.1 (fun _ v' dZ=>by rw[hv] at dZ;cases dZ;exact eA.2) fun oD=>absurd nR oD;refine eA.mono fun e w1 ⟨u,he,hb,hr⟩=>⟨u,he,?_⟩;exact ML _ _ hb (fun _ v' dZ=>by rw[hv] at dZ;cases dZ;exact hr) fun oD=>absurd nR oD;exact eA.elim;rename_i r9;refine ML undef w (cZ _ _) (fun nR=>absurd (hw.2 (hg▸nR)) r9) fun _ b e=> ?_;simp[undef] at e
def bF1 (ho:eL P o){w:World}{Q:Act->Prop}(hD:∀(i:Nat) q,isF[i]? =some q->GH o aA isF q.g->∃v,dJ o aA q.x=some v)(hl:(∀n v,iH aA n=some v->∃u,a0.tmps[n]? =some u/\aP (dS w) w u v)/\mV (dS w) w):
  ∀(r:List Oper) (defs:List (Tmp×Nat)) (is:List QI) (a:Act),tX P true bB r defs is=some (dF,isF)->(∀op∈r,∀d,op.dst=some d->d<a0.tmps.size)->
  ES o aA isF a0 (dS w) defs is a w->(∀a',ES o aA isF a0 (dS w) dF isF a' w->Q a')->wpQuiet P bB.toArray (Below w.heap.size w) Q r a
 |[],defs,is,a,h,_,hI,hQ=>by simp only[tX,aH,cM] at h;obtain⟨rfl,rfl⟩:=h;exact hQ a hI
 |op::r,defs,is,a,h,bE,hI,hQ=>by
  obtain⟨d,q,hd,cR,hq,qN,mF⟩:=OY h;obtain⟨tl,h1,_⟩:=OX _ _ _ _ _ mF;have Bu:isF[is.length]? =some q:=by rw[h1,BU (by simp)];simp
  have hg:=(VL (fun t j hd=>aF0 hI hd) hI.2.2.1 hq).2;have hw:=Xf hI hD cR (fun _ _ _=>trivial);have ML:∀(u:Value),(GH o aA isF q.g->∀v,dJ o aA q.x=some v->aP (dS w) w u v)->(¬GH o aA isF q.g->∀b,u≠ .bool b)->
    wpQuiet P bB.toArray (Below w.heap.size w) Q r (a.put op.dst u):=by
   intro u hu hn;rw[hd];exact bF1 ho hD hl r _ (is++[q]) (a.put (some d) u) mF (fun eX h'=>bE eX (dL _ h')) (hI.step (bE op (dC ..) d hd) Bu u hu hn) hQ
  simp only[wpQuiet];split;rename_i r9;have nR:=hw.1 r9;rw[<-hg] at nR;obtain⟨v,hv⟩:=hD _ q Bu nR;obtain⟨u,hu,bY⟩:=dR1 ho (fun _ h=>h) hI hl hq qN nR hv;exact⟨u,fun w' hb=>bY w' hb,ML u (fun _ v' dZ=>by rw[hv] at dZ;cases dZ;exact hu) fun oD=>absurd nR oD⟩;rename_i r9;refine ML undef (fun nR=>absurd (hw.2 (hg▸nR)) r9) fun _ b e=> ?_;simp[undef] at e
def Y5 {defs:List (Tmp×Nat)}{is:List QI}:∀{ds:List Nat} {rs:List (Nat×X)} {js:List Nat},IE defs is ds=some (rs,js)->
  (∀p∈rs,p.1∈ds/\∃j q,pI defs p.1=some j/\is[j]? =some q/\q.g=none/\p.2=q.x)/\(∀d∈ds,pI defs d≠none->∃x,(d,x)∈rs)/\(∀j∈js,∃d q,is[j]? =some q/\(d,q.x)∈rs)
 |[],rs,js,h=>by simp only[IE,aH,cM] at h;obtain⟨rfl,rfl⟩:=h;exact⟨by simp,by simp,by simp⟩
 |d::ds,rs,js,h=>by
  simp only[IE] at h;cases hr:IE defs is ds with
  |none=>rw[hr] at h;cases h
  |some p=>
   obtain⟨rs',js'⟩:=p;rw[hr] at h;simp only[aZ] at h;obtain⟨h1,h2,h3⟩:=Y5 hr;cases hd:pI defs d with
   |none=>rw[hd] at h;simp only[aH,cM] at h;obtain⟨rfl,rfl⟩:=h;refine⟨fun p hp=>⟨dL _ (h1 p hp).1,(h1 p hp).2⟩,fun d' gU hn=> ?_,h3⟩;rcases eP.1 gU with rfl|gU;exact absurd hd hn;exact h2 d' gU hn
   |some j=>rw[hd] at h;simp only at h;cases hq:is[j]? with|none=>rw[hq] at h;cases h|some q=>rw[hq] at h;simp only[aZ] at h;split at h;rename_i hg;simp only[aH,cM] at h;obtain⟨rfl,rfl⟩:=h;refine⟨fun p hp=> ?_,fun d' gU hn=> ?_,fun j' jH=> ?_⟩;rcases eP.1 hp with rfl|hp;exact⟨dC ..,j,q,hd,hq,by simpa using hg,rfl⟩;exact⟨dL _ (h1 p hp).1,(h1 p hp).2⟩;rcases eP.1 gU with rfl|gU;exact⟨q.x,dC ..⟩;obtain⟨x,hx⟩:=h2 d' gU hn;exact⟨x,dL _ hx⟩;rcases eP.1 jH with rfl|jH;exact⟨d,q,hq,dC ..⟩;obtain⟨d',q',h4,h5⟩:=h3 j' jH;exact⟨d',q',h4,dL _ h5⟩;cases h
def Yp:∀{rs:List (Nat×X)} {acc aN:aG},wJ o aA rs acc=some aN->∀p∈rs,∃v,dJ o aA p.2=some v/\v.flat1=true
 |[],_,_,_,p,hp=>by cases hp|q::rs,acc,aN,h,p,hp=>by simp only[wJ] at h;cases hv:dJ o aA q.2 with|none=>rw[hv] at h;cases h|some v=>rw[hv] at h;simp only[aZ] at h;split at h;rcases eP.1 hp with rfl|hp;exact⟨v,hv,‹_›⟩;exact Yp h p hp;cases h
def I9 {S:Nat->Prop}{w:World}{u:Value}{v:V}(h:aP S w u v):v.names=none/\v.isOwn=false/\(v.smp=true\/∃ys,v= .t ys):=by cases h<;>simp[V.names,V.isOwn,V.smp]
def Yq {Im:Nat->Prop}{w:World}{aD:Nat}{T':Tm}:∀{rs:List (Nat×X)} {acc aN:aG} {T:Tm},wJ o aA rs acc=some aN->cH acc->d8 P Im w aD acc T->
  (∀p∈rs,∀v,dJ o aA p.2=some v->∃u,T' p.1=some u/\aP Im w u v/\v.smp=true)->(∀n x,aF n acc=some x->(∃y,(n,y)∈rs)\/T' n=T n)->
  cH aN/\d8 P Im w aD aN T'/\∀n x,aF n aN=some x->(∃y,(n,y)∈rs)\/∃x',aF n acc=some x'
 |[],acc,aN,T,h,hs,he,_,hT=>by simp only[wJ,aH] at h;subst h;exact⟨hs,he.congr fun n x hx=>(hT n x hx).resolve_left (by simp),fun n x hx=> .inr ⟨x,hx⟩⟩
 |q::rs,acc,aN,T,h,hs,he,hr,hT=>by
  simp only[wJ] at h;cases hv:dJ o aA q.2 with
  |none=>rw[hv] at h;cases h
  |some v=>
   rw[hv] at h;simp only[aZ] at h;split at h
   ·obtain⟨u,hu,kN,s9⟩:=hr q (dC ..) v hv;obtain⟨jQ,dP,_⟩:=I9 kN;have hnoT:∀c g,¬cO (put' q.1 v acc) (fun n=>if n=q.1 then some u else T n) q.1 c g:=by
     intro c g ho;cases c with
     |none=>obtain⟨x,_,hx,cA,_⟩:=ho;rw[gJ hs,aY rfl] at hx;cases hx;rw[dP] at cA;cases cA
     |some j=>obtain⟨ys,_,_,_,hx,_⟩:=ho;rw[gJ hs,aY rfl] at hx;cases hx;simp[V.smp] at s9
    have Cj:=he.put (T':=fun n=>if n=q.1 then some u else T n) hs q.1 v u (by simp) (fun m y hm _=>by simp[hm])
     (by
      rw[fT.res1 s9];cases v<;>first |exact kN|(simp[V.isOwn] at dP;done)|(simp[V.smp] at s9;done)) (fun m hm=>by rw[jQ] at hm;cases hm) (fun c g ho=>absurd ho (hnoT c g)) (fun c c' g ho=>absurd ho (hnoT c g))
    obtain⟨h1,h2,h3⟩:=Yq h (hs.put' _ _) Cj (fun p hp=>hr p (dL _ hp)) (fun n x hx=>by
     by_cases hn:n=q.1;right;subst hn;simpa using hu;rw[gJ hs,aK hn] at hx;have hacc:∃x',aF n acc=some x':=by cases hq:aF q.1 acc with|none=>rw[hq] at hx;exact⟨x,hx⟩|some z=>rw[hq] at hx;simp only at hx;cases kC:aF n acc with|none=>rw[kC] at hx;cases hx|some x'=>exact⟨x',rfl⟩
     obtain⟨x',lX⟩:=hacc;rcases hT n x' lX with⟨y,hy⟩|hy;rcases eP.1 hy with e|hy;exact absurd (jV Prod.fst e) hn;exact .inl ⟨y,hy⟩;right;simpa[hn] using hy)
    refine⟨h1,h2,fun n x hx=> ?_⟩;rcases h3 n x hx with⟨y,hy⟩|⟨x',lX⟩;exact .inl ⟨y,dL _ hy⟩;by_cases hn:n=q.1;left;subst hn;exact⟨q.2,dC ..⟩;right;rw[gJ hs,aK hn] at lX;cases hq:aF q.1 acc with|none=>rw[hq] at lX;exact⟨x',lX⟩|some z=>rw[hq] at lX;simp only at lX;cases kC:aF n acc with|none=>rw[kC] at lX;cases lX|some x''=>exact⟨x'',rfl⟩
   cases h
def V1 {keep:List Nat}{aJ:List Oper}{d:Nat}:d∈JQ keep aJ↔d∈keep/\∃op∈aJ,op.dst=some d:=by
 unfold JQ;rw[List.mem_eraseDups,List.mem_filterMap];constructor;rintro⟨op,aO,h⟩;cases hd:op.dst with|none=>rw[hd] at h;cases h|some d'=>rw[hd] at h;simp only[aZ] at h;split at h;cases h;rename_i hc;exact⟨by simpa using hc,op,aO,hd⟩;cases h
 rintro⟨hk,op,aO,hd⟩;exact⟨op,aO,by simp[hd,hk]⟩
def Yj {draw:Bool}:∀(r:List Oper) (defs dF:List (Tmp×Nat)) (is iF:List QI),tX P draw bB r defs is=some (dF,iF)->∀t j,pI dF t=some j->(∃op∈r,op.dst=some t)\/∃j',pI defs t=some j'
 |[],defs,dF,is,iF,h,t,j,hd=>by simp only[tX,aH,cM] at h;exact .inr ⟨j,h.1▸hd⟩|op::r,defs,dF,is,iF,h,t,j,hd=>by obtain⟨d,q,nS,_,_,_,mF⟩:=OY h;rcases Yj r _ _ _ _ mF t j hd with⟨eX,h1,h2⟩|⟨j',h1⟩;exact .inl ⟨eX,dL _ h1,h2⟩;rw[SC] at h1;split at h1;rename_i e;subst e;exact .inl ⟨op,dC ..,nS⟩;exact .inr ⟨j',h1⟩
end
def dH4 {P:Program}{o:aU}(ho:eL P o)(hm:P.follows .mixedOrders=true){nt:Nat}{keep:List Nat}{S:Nat->Prop}{aD:Nat}{w0:World}{id:Nat}{aJ:Array Oper}{draw:Bool}{rs:List (Nat×X)}
  (h:Yc P nt keep aJ.toList draw=some rs){aA aN:aG}(Cj:wJ o aA rs aA=some aN){a:Act}{w:World}(hF:FI P nt keep S aD w0 aA a w){Q:Exit->Act->World->Prop}
  (hQ:∀a' w',FI P nt keep S aD w0 aN a' w'->Q .normal a' w'):(Code.region id aJ draw).wp P Q a w:=by
 unfold Yc at h;cases mF:tX P draw aJ.toList aJ.toList [] [] with
 |none=>rw[mF] at h;cases h
 |some p=>
  obtain⟨dF,isF⟩:=p;rw[mF] at h;simp only[aZ] at h;cases lD:IE dF isF (JQ keep aJ.toList) with
  |none=>rw[lD] at h;cases h
  |some p=>
   obtain⟨rs',js⟩:=p;rw[lD] at h;simp only[aZ] at h;split at h
   ·rename_i hc;cases h;simp only[fA,tK,LB] at hc;obtain⟨⟨hdem,hdraw⟩,lA⟩:=hc;obtain⟨Im,cE,bK,hE⟩:=hF.ents;have gF:∀b,Im b->b<w.heap.size:=fun b hb=>(bK b hb).2;have hl:(∀n v,iH aA n=some v->∃u,a.tmps[n]? =some u/\aP (dS w) w u v)/\mV (dS w) w:=⟨fun n v hv=>RK hE gF hv,hE.glob.move gF fun _ _=>rfl⟩;have FR:=Yi _ _ _ _ _ mF (fun t j hd=>by simp[pI] at hd) (fun k q hk=>by simp at hk);obtain⟨iI,nP,hr3⟩:=Y5 lD;have MD:=Yp Cj;have hD:∀(i:Nat) q,isF[i]? =some q->GH o aA isF q.g->∃v,dJ o aA q.x=some v:=fun i q hq hg=>
     bW7 FR hdem (fun j hj q' dE=>by
      obtain⟨d,q2,h1,h2⟩:=hr3 j hj;rw[dE] at h1;cases h1;obtain⟨v,hv,_⟩:=MD _ h2;exact⟨v,hv⟩) _ i (dD _) q hq hg
    have bE:∀op∈aJ.toList,∀d,op.dst=some d->d<a.tmps.size:=fun op aO d hd=>by have:=eM.1 lA op aO;rw[hd] at this;rw[hF.size];simpa using this
    have hI0:ES o aA isF a (dS w) [] [] a w:=⟨rfl,rfl,fun j hj=>by simp at hj,A6 _,fun t=>by simp[pI]⟩;have FZ:∀(a':Act) (w1 w':World),Below w.heap.size w w'->ES o aA isF a (dS w1) dF isF a' w1->FI P nt keep S aD w0 aN a' w':=by
     intro a' w1 w' hb hQI;obtain⟨h1,h2,_,_,h4⟩:=hQI;have AO:=hE.move (w':=w') (fun _ h=>h) (fun n c g oC=>(cO.lt hE oC).2.2) (fun b fD=>hb.block b fD) gF;have MG:=Yq (T:=fun n=>a.tmps[n]?) (T':=fun n=>a'.tmps[n]?) Cj hF.srt AO (fun p hp v hv=>by
       obtain⟨_,j,q,hd,hq,hg,hx⟩:=iI p hp;have:=h4 p.1;rw[hd] at this;obtain⟨q',dE,hy,_⟩:=this;rw[hq] at dE;cases dE;rw[hx] at hv;obtain⟨u,hu,hr⟩:=hy trivial (by rw[hg];exact .top) v hv;obtain⟨v',dZ,fC⟩:=MD p hp;rw[hx,hv] at dZ;cases dZ;have kM:=(I9 hr).2.2;have KI:v.flat=true:=by cases v<;>first |exact fC|(simp[V.flat1] at fC;done)
       refine⟨u,hu,hr.of_flat KI,?_⟩;rcases kM with kM|⟨ys,rfl⟩;exact kM;simp[V.flat1] at fC) (fun n x hx=>by
       have:=h4 n;cases hd:pI dF n with
       |none=>rw[hd] at this;exact .inr (this trivial)
       |some j=>
        left;rcases Yj _ _ _ _ _ mF n j hd with⟨op,aO,nS⟩|⟨j',jH⟩;exact nP n (V1.2 ⟨(hF.keys n x hx).1,op,aO,nS⟩) (by rw[hd];simp);simp[pI] at jH)
     refine⟨MG.1,h1.trans hF.size,h2.trans hF.defers,hF.below.trans (hb.mono hF.bsz),(fun b nT=>(hb.block b (bK b (cE b nT)).2).trans (hF.kept b nT)),fG hF.bsz hb.size,fun n x hx=> ?_,Im,cE,fun b fD=>⟨(bK b fD).1,vU (gF b fD) hb.size⟩,MG.2.1⟩;rcases MG.2.2 n x hx with⟨y,hy⟩|⟨x',lX⟩;obtain⟨hw,_⟩:=iI _ hy;obtain⟨hk,op,aO,nS⟩:=V1.1 hw;exact⟨hk,by rw[<-hF.size];exact bE op aO n nS⟩;exact hF.keys n x' lX
    cases draw with
    |false=>refine yX ?_;have:=bF0 (P:=P) (bB:=aJ.toList) ho hD aJ.toList [] [] a w mF (by simp) bE hI0 hl (Q:=Q) fun a' w' hb hQI=>hQ a' w' (FZ a' w' w' hb hQI);simpa[EY] using this
    |true=>
     have hq:Yh aJ.toList=true:=by simpa using hdraw
     unfold Yh at hq;simp only[fA] at hq;refine wp_region_quiet (C:=Below w.heap.size w) hm (by simpa using hq.2) ⟨rfl,rfl,rfl,dD _,fun _ _=>rfl⟩ ?_;have:=bF1 (P:=P) (bB:=aJ.toList) (Q:=fun a'=>∀w',Below w.heap.size w w'->Q .normal a' w') ho hD hl aJ.toList [] [] a mF bE hI0 fun a' hQI w' hb=>hQ a' w' (FZ a' w w' hb hQI);simpa using this
   cases h
end Go.VM
namespace Go.VM
open Go.RowKit
variable [cB]
section
variable {P:Program} {nt:Nat} {keep:List Nat} {S:Nat->Prop} {aD:Nat} {w0:World} {aA:aG} {a:Act} {w:World}
abbrev tm (a:Act):Tm:=fun n=>a.tmps[n]?
def jF {a:Act}{d:Nat}{u:Value}(hd:d<a.tmps.size)(n:Nat):tm (a.put (some d) u) n=if n=d then some u else tm a n:=by unfold tm;simp only[Act.put];by_cases h:n=d;subst h;simp[hd];rw[aK h,BT,aK (fun e=>h e.symm)]
def d8.ext {Im:Nat->Prop}{aN:aG}{T:Tm}(h:d8 P Im w aD aA T)(hg:∀n,aF n aN=aF n aA):d8 P Im w aD aN T:=by refine h.sub (fun n x hx=>by rw[<-hg];exact hx) fun n x m hx hm=> ?_;rw[hg] at hx;obtain⟨y,hy,hn⟩:=h.closed n x m hx hm;exact⟨y,by rw[hg];exact hy,hn⟩
def FI.put (hF:FI P nt keep S aD w0 aA a w){d:Nat}(hk:d∈keep)(hd:d<nt){w1:World}(hb:Below w.heap.size w w1){x:V}{u:Value}(jQ:x.names=none)
  (hx:∀Im:Nat->Prop,(∀b,S b->Im b)->(∀b,Im b->(S b\/aD<=b)/\b<w.heap.size)->d8 P Im w aD aA (tm a)->
   ∃mK:Nat->Prop,(∀b,Im b->mK b)/\(∀b,mK b->(Im b\/w.heap.size<=b)/\b<w1.heap.size)/\fT P mK w1 aD (put' d x aA) (tm (a.put (some d) u)) u x)
  (cA:∀c g,cO (put' d x aA) (tm (a.put (some d) u)) d c g->w.heap.size<=g)(FV:∀c c' g,cO (put' d x aA) (tm (a.put (some d) u)) d c g->cO (put' d x aA) (tm (a.put (some d) u)) d c' g->c=c'):
  FI P nt keep S aD w0 (put' d x aA) (a.put (some d) u) w1:=by
 obtain⟨Im,cE,bK,hE⟩:=hF.ents;obtain⟨mK,h1,h2,gQ⟩:=hx Im cE bK hE;have lN:d<a.tmps.size:=by rw[hF.size];exact hd
 have AN:=hE.move (w':=w1) h1 (fun n c g ho=>by
  have:=cO.lt hE ho;intro hg;rcases(h2 g hg).1 with h|h;exact this.2.2 h;omega) (fun b fD=>hb.block b fD) (fun b h=>(bK b h).2)
 refine⟨hF.srt.put' _ _,by simpa[Act.put] using hF.size,hF.defers,hF.below.trans (hb.mono hF.bsz),(fun b nT=>(hb.block b (bK b (cE b nT)).2).trans (hF.kept b nT)),fG hF.bsz hb.size,fun n y hy=> ?_,mK,fun b fD=>h1 b (cE b fD),fun b fD=> ?_,?_⟩;by_cases hn:n=d;subst hn;exact⟨hk,hd⟩;rw[gJ hF.srt,aK hn] at hy;cases hq:aF d aA with|none=>rw[hq] at hy;exact hF.keys n y hy|some z=>rw[hq] at hy;simp only at hy;cases kC:aF n aA with|none=>rw[kC] at hy;cases hy|some y'=>exact hF.keys n y' kC
 refine⟨?_,(h2 b fD).2⟩;rcases(h2 b fD).1 with h|h;exact(bK b h).1;exact .inr (fG hF.bsz h);refine AN.put hF.srt d x u ((jF lN d).trans (aY rfl)) (fun m y hm _=>(jF lN m).trans (aK hm)) gQ (fun m hm=>by rw[jQ] at hm;cases hm) (fun c g ho n' c' _ oC=> ?_) FV;have h3:=cA c g ho;have h4:=(cO.lt AN oC).1;have h5:=(cO.lt hE oC).1;omega
def Od {d:Nat}{x:V}{T:Tm}(hs:cH aA)(hx:x.isOwn=false)(ht:∀ys,x≠ .t ys)(c:Option Nat)(g:Nat):¬cO (put' d x aA) T d c g:=by
 intro ho;cases c with
 |none=>obtain⟨y,_,hy,cA,_⟩:=ho;rw[gJ hs,aY rfl] at hy;cases hy;rw[hx] at cA;cases cA
 |some j=>obtain⟨ys,_,_,_,hy,_⟩:=ho;rw[gJ hs,aY rfl] at hy;cases hy;exact ht ys rfl
def FI.put_ud (hF:FI P nt keep S aD w0 aA a w){d:Nat}(hk:d∈keep)(hd:d<nt){u:Value}:FI P nt keep S aD w0 (put' d .ud aA) (a.put (some d) u) w:=
 hF.put hk hd (cZ _ _) rfl (fun Im _ h2 _=>⟨Im,fun _ h=>h,fun b h=>⟨.inl h,(h2 b h).2⟩,trivial⟩) (fun c g ho=>absurd ho (Od hF.srt rfl (fun _ e=>by cases e) c g)) (fun c c' g ho=>absurd ho (Od hF.srt rfl (fun _ e=>by cases e) c g))
def FI.put_rep (hF:FI P nt keep S aD w0 aA a w){d:Nat}(hk:d∈keep)(hd:d<nt){w1:World}(hb:Below w.heap.size w w1){x:V}{u:Value}(s9:x.smp=true)(dP:x.isOwn=false)
  (hx:∀Im:Nat->Prop,(∀b,S b->Im b)->(∀b,Im b->(S b\/aD<=b)/\b<w.heap.size)->d8 P Im w aD aA (tm a)->
   ∃mK:Nat->Prop,(∀b,Im b->mK b)/\(∀b,mK b->(Im b\/w.heap.size<=b)/\b<w1.heap.size)/\aP mK w1 u x):
  FI P nt keep S aD w0 (put' d x aA) (a.put (some d) u) w1:=by
 have jQ:x.names=none:=by cases x<;>first |rfl|(simp[V.smp] at s9;done)
 have ht:∀ys,x≠ .t ys:=fun ys e=>by subst e;simp[V.smp] at s9
 refine hF.put hk hd hb jQ (fun Im h1 h2 h3=> ?_) (fun c g ho=>absurd ho (Od hF.srt dP ht c g)) (fun c c' g ho=>absurd ho (Od hF.srt dP ht c g));obtain⟨mK,h4,h5,hr⟩:=hx Im h1 h2 h3;refine⟨mK,h4,h5,?_⟩;rw[fT.res1 s9];cases x<;>first |exact hr|(simp[V.isOwn] at dP;done)|(simp[V.smp] at s9;done)
def Ya {S:Nat->Prop}{w:World}{u:Value}{v:V}(h:aP S w u v):v.isOwn=false:=by cases h<;>rfl
def FI.put_flat (hF:FI P nt keep S aD w0 aA a w){d:Nat}(hk:d∈keep)(hd:d<nt){w1:World}(hb:Below w.heap.size w w1){x:V}{u:Value}{S':Nat->Prop}{w':World}(hx:aP S' w' u x)(fC:x.flat1=true):
  FI P nt keep S aD w0 (put' d x aA) (a.put (some d) u) w1:=by
 have KI:x.flat=true:=by cases x<;>first |exact fC|(simp[V.flat1] at fC;done)
 have kM:x.smp=true:=by rcases(I9 hx).2.2 with h|⟨ys,rfl⟩;exact h;simp[V.flat1] at fC
 exact hF.put_rep hk hd hb kM (Ya hx) fun Im _ h2 _=>⟨Im,fun _ h=>h,fun b h=>⟨.inl h,vU (h2 b h).2 hb.size⟩,hx.of_flat KI⟩
def FI.put_own (hF:FI P nt keep S aD w0 aA a w){d:Nat}(hk:d∈keep)(hd:d<nt){w1:World}(hb:Below w.heap.size w w1){x:V}{u:Value}(cA:x.isOwn=true)(hfresh:∀g,dR u=some g->w.heap.size<=g)
  (hx:∀Im:Nat->Prop,(∀b,S b->Im b)->(∀b,Im b->(S b\/aD<=b)/\b<w.heap.size)->d8 P Im w aD aA (tm a)->
   ∃mK:Nat->Prop,(∀b,Im b->mK b)/\(∀b,mK b->(Im b\/w.heap.size<=b)/\b<w1.heap.size)/\fL P mK w1 aD u x):
  FI P nt keep S aD w0 (put' d x aA) (a.put (some d) u) w1:=by
 have lN:d<a.tmps.size:=by rw[hF.size];exact hd
 have s9:x.smp=true:=by cases x<;>simp_all[V.isOwn,V.smp]
 have jQ:x.names=none:=by cases x<;>simp_all[V.isOwn,V.names]
 have lA:∀ys,x≠ .t ys:=fun ys e=>by subst e;simp[V.isOwn] at cA
 have ho:∀c g,cO (put' d x aA) (tm (a.put (some d) u)) d c g->c=none/\dR u=some g:=by
  intro c g h;cases c with
  |none=>obtain⟨y,v,hy,_,hT,hg⟩:=h;rw[jF lN,aY rfl] at hT;cases hT;exact⟨rfl,hg⟩
  |some j=>obtain⟨ys,_,_,_,hy,_⟩:=h;rw[gJ hF.srt,aY rfl] at hy;cases hy;exact absurd rfl (lA ys)
 refine hF.put hk hd hb jQ (fun Im h1 h2 h3=> ?_) (fun c g h=>hfresh g (ho c g h).2) (fun c c' g h h'=>(ho c g h).1.trans (ho c' g h').1.symm);obtain⟨mK,h4,h5,hr⟩:=hx Im h1 h2 h3;exact⟨mK,h4,h5,by rw[fT.res1 s9];exact hr⟩
end
end Go.VM
namespace Go.VM
open Go.RowKit
variable [cB]
section
variable {P:Program} {nt:Nat} {keep:List Nat} {S:Nat->Prop} {aD:Nat} {w0:World} {aA:aG} {a:Act} {w:World}
def eI3 (x:V):frz (frz x)=frz x:=by cases x<;>rfl
def G' (n m:Nat)(aA:aG):aF m (freeze1 n aA)=if m=n then(aF n aA).map (fun x=>if x.isOwn then frz x else x) else aF m aA:=by unfold freeze1;cases h:aF n aA with|none=>by_cases hm:m=n<;>simp[hm,h]|some x=>simp only;split;rw[kZ];by_cases hm:m=n;simp[*];simp[hm];by_cases hm:m=n;subst hm;simp[*];simp[hm]
def cH.freeze1 (hs:cH aA)(n:Nat):cH (freeze1 n aA):=by unfold VM.freeze1;split;split;exact hs.put _ _;exact hs;exact hs
def dI2 (x:V)(h:x.isOwn=true):BK (frz x)=BK x:=by cases x<;>simp_all[V.isOwn,BK,frz]
def bE9 (n m:Nat):(aF m (freeze1 n aA)).bind BK=(aF m aA).bind BK:=by
 rw[G'];by_cases hm:m=n;subst hm;cases h:aF m aA with|none=>simp|some x=>simp only[jA,eB,aZ];split;exact dI2 x ‹_›;rfl
 simp[hm]
def dV8 (n m:Nat):iH (freeze1 n aA) m=iH aA m:=by
 have key:∀x:V,x.isOwn=true->(match some x with
   |some (.al m)=>(aF m (freeze1 n aA)).bind BK
   |some (.pe m i off sz)=>match(aF m (freeze1 n aA)).bind BK with
    |some (.l es)=>(es[i]?).bind fun e=>(sub e.cells off sz).map V.r|_=>none
   |some (.pb m off sz)=>match(aF m (freeze1 n aA)).bind BK with
    |some (.r cs)=>(sub cs off sz).map V.r|_=>none
   |some x=>BK x
   |none=>none)=BK x:=by intro x hx;cases x<;>first |rfl|(simp[V.isOwn] at hx;done)
 unfold iH;rw[G'];by_cases hm:m=n
 ·subst hm;cases h:aF m aA with
  |none=>simp
  |some x=>
   simp only[jA,eB];by_cases hx:x.isOwn=true
   ·rw[aY hx];cases x<;>first |rfl|(simp[V.isOwn] at hx;done)
   rw[aK hx];cases x<;>first |rfl|simp only[bE9]
 rw[aK hm];cases h:aF m aA with|none=>rfl|some x=>cases x<;>first |rfl|simp only[bE9]
def I7 (s:bF)(xs:List bF):freeze aA (s::xs)=freeze (match owner aA s with |some n=>freeze1 n aA|none=>aA) xs:=rfl
def dW0 (n:Nat)(s:bF):dK (freeze1 n aA) s=dK aA s:=by cases s with|c v=>rfl|t m=>exact dV8 n m
def bL6 (n:Nat):∀xs,eC (freeze1 n aA) xs=eC aA xs
 |[]=>rfl|s::xs=>by simp only[eC,dW0,bL6 n xs]
def Jz:∀(ys:List bF) (aA:aG) (xs:List bF),eC (freeze aA ys) xs=eC aA xs
 |[],_,_=>rfl|s::ys,aA,xs=>by rw[I7,Jz ys];cases owner aA s with|none=>rfl|some n=>exact bL6 n xs
def FI.freeze1 (hF:FI P nt keep S aD w0 aA a w)(n:Nat):FI P nt keep S aD w0 (freeze1 n aA) a w:=by
 cases hx:aF n aA with
 |none=>unfold VM.freeze1;rw[hx];exact hF
 |some x=>
  by_cases cA:x.isOwn=true
  ·obtain⟨Im,cE,bK,hE⟩:=hF.ents;have fQ:∀m,aF m (VM.freeze1 n aA)=if m=n then some (frz x) else aF m aA:=fun m=>by rw[G',hx];simp[cA]
   obtain⟨u,hu,he⟩:=hE.ent n x hx;have s9:x.smp=true:=by cases x<;>simp_all[V.isOwn,V.smp]
   have hsmp':(frz x).smp=true:=by cases x<;>simp_all[V.isOwn,V.smp,frz]
   have MK:(frz x).names=none:=by cases x<;>simp_all[V.isOwn,V.names,frz]
   rw[fT.res1 s9] at he;let Im':Nat->Prop:=fun b=>Im b\/dR u=some b;have sE:∀g,dR u=some g->g<w.heap.size/\aD<=g/\¬Im g:=fun g hg=>cO.lt hE (n:=n) (c:=none) ⟨x,u,hx,cA,hu,hg⟩;have Gu:∀m c g,cO (VM.freeze1 n aA) (tm a) m c g->m≠n/\cO aA (tm a) m c g:=by
    intro m c g ho;cases c with
    |none=>obtain⟨y,v,hy,h1,h2⟩:=ho;rw[fQ] at hy;by_cases hm:m=n;rw[aY hm] at hy;cases hy;exact absurd h1 (by cases x<;>simp_all[V.isOwn,frz]);rw[aK hm] at hy;exact⟨hm,y,v,hy,h1,h2⟩
    |some j=>obtain⟨ys,us,y,v,hy,h1⟩:=ho;rw[fQ] at hy;by_cases hm:m=n;rw[aY hm] at hy;cases x<;>simp_all[V.isOwn,frz];rw[aK hm] at hy;exact⟨hm,ys,us,y,v,hy,h1⟩
   refine⟨hF.srt.freeze1 n,hF.size,hF.defers,hF.below,hF.kept,hF.bsz,fun m y hy=> ?_,Im',fun b h=> .inl (cE b h),fun b h=> ?_,fun m y hy=> ?_,fun m y k hy hk=> ?_,fun m c m' c' g h1 h2=> ?_,hE.glob.move (fun b h=> .inl h) fun _ _=>rfl⟩;rw[fQ] at hy;by_cases hm:m=n;rw[hm];exact hF.keys n x hx;rw[aK hm] at hy;exact hF.keys m y hy;rcases h with h|h;exact bK b h;exact⟨.inr (sE b h).2.1,(sE b h).1⟩
   ·rw[fQ] at hy;by_cases hm:m=n
    ·rw[aY hm] at hy;cases hy;refine⟨u,by rw[hm];exact hu,?_⟩;rw[fT.res1 hsmp'];have:aP Im' w u (frz x):=by
      cases x with
      |ow e es=>exact he.1.frz (fun b h=> .inl h) fun g hg=> .inr hg|bx cs=>exact he.1.frz (fun b h=> .inl h) fun g hg=> .inr hg|mp ks vs=>obtain⟨⟨g,es,c,rfl,_⟩,_⟩:=he;exact .um _
      |_=>simp[V.isOwn] at cA
     cases x<;>first |exact this|(simp[V.isOwn] at cA;done)
    rw[aK hm] at hy;obtain⟨v,hv,gQ⟩:=hE.ent m y hy;have bM:∀c g,cO aA (tm a) m c g->¬Im' g:=fun c g ho hg=>by rcases hg with hg|hg;exact(cO.lt hE ho).2.2 hg;exact hm (hE.apart m c n none g ho ⟨x,u,hx,cA,hu,hg⟩).1
    have h2:=gQ.move (Im':=Im') (w':=w) (fun b h=> .inl h) (fun ho g hg=>bM none g ⟨y,v,hy,ho,hv,hg⟩) (fun ys us Aq iD j z vv hz hvz ho g hg=>by
     subst Aq;subst iD;exact bM (some j) g ⟨ys,us.toList,z,vv,hy,by simpa using hv,hz,ho,by simpa using hvz,hg⟩) (fun b _=>rfl) (fun b h=>(bK b h).2)
    refine⟨v,hv,?_⟩;cases y with
    |pe k i off sz=>obtain⟨ad,l,c,kk,h3,h4,h5⟩:=h2;refine⟨ad,l,c,kk,h3,h4,fun z es hz AI=> ?_⟩;rw[fQ] at hz;by_cases hk:k=n;rw[aY hk] at hz;cases hz;rw[eI3] at AI;exact h5 x es (by rw[hk];exact hx) AI;rw[aK hk] at hz;exact h5 z es hz AI
    |_=>exact h2
   rw[fQ] at hy;by_cases hm:m=n;rw[aY hm] at hy;cases hy;rw[MK] at hk;cases hk;rw[aK hm] at hy;obtain⟨z,hz,jZ⟩:=hE.closed m y k hy hk;by_cases mS:k=n;exact⟨frz x,by rw[fQ,aY mS],MK⟩;exact⟨z,by rw[fQ,aK mS];exact hz,jZ⟩;exact hE.apart m c m' c' g (Gu m c g h1).2 (Gu m' c' g h2).2
  have:VM.freeze1 n aA=aA:=by unfold VM.freeze1;rw[hx];simp[cA]
  rw[this];exact hF
def FI.freeze:∀(xs:List bF) {aA:aG},FI P nt keep S aD w0 aA a w->FI P nt keep S aD w0 (freeze aA xs) a w
 |[],_,hF=>hF|s::xs,aA,hF=>by rw[I7];cases owner aA s with|none=>exact hF.freeze xs|some n=>exact(hF.freeze1 n).freeze xs
def CJ (aA:aG)(s:bF):Prop:=∀m x,owner aA s=some m->aF m aA=some x->x.isOwn=false
def bH7 (n:Nat)(s:bF)(m:Nat)(h:owner (freeze1 n aA) s=some m):owner aA s=some m\/∃x,aF m (freeze1 n aA)=some x/\x.isOwn=false:=by
 cases s with
 |c v=>simp[owner] at h
 |t k=>
  simp only[owner,G'] at h⊢;by_cases hk:k=n;subst hk;rw[aY rfl] at h;cases hx:aF k aA with|none=>rw[hx] at h;cases h|some x=>rw[hx] at h;simp only[eB] at h;by_cases cA:x.isOwn=true;rw[aY cA] at h;cases x<;>simp_all[V.isOwn,frz,V.names];rw[aK cA] at h;exact .inl h
  rw[aK hk] at h;exact .inl h
def dV0 {s:bF}(h:CJ aA s)(n:Nat):CJ (freeze1 n aA) s:=by
 intro m x hm hx;rcases bH7 n s m hm with h1|⟨y,hy,hyo⟩;rw[G'] at hx;by_cases hmn:m=n;subst hmn;rw[aY rfl] at hx;cases hy:aF m aA with|none=>rw[hy] at hx;cases hx|some y=>rw[hy] at hx;simp only[eB,aH] at hx;have:=h m y h1 hy;rw[this] at hx;simp at hx;subst hx;exact this
 rw[aK hmn] at hx;exact h m x h1 hx;rw[hx] at hy;cases hy;exact hyo
def dV1 {s:bF}{n:Nat}(h:owner aA s=some n):CJ (freeze1 n aA) s:=by
 intro m x hm hx;rcases bH7 n s m hm with h1|⟨y,hy,hyo⟩;rw[h] at h1;cases h1;rw[G',aY rfl] at hx;cases hy:aF n aA with|none=>rw[hy] at hx;cases hx|some y=>rw[hy] at hx;simp only[eB,aH] at hx;subst hx;split;cases y<;>simp_all[V.isOwn,frz];rename_i hn;simpa using hn
 rw[hx] at hy;cases hy;exact hyo
def IN:∀(xs:List bF) (aA:aG),(∀s,CJ aA s->CJ (freeze aA xs) s)/\∀s∈xs,CJ (freeze aA xs) s
 |[],_=>⟨fun _ h=>h,by simp⟩
 |s::xs,aA=>by
  rw[I7];cases ho:owner aA s with
  |none=>
   obtain⟨h1,h2⟩:=IN xs aA;refine⟨h1,fun s' fR=> ?_⟩;rcases eP.1 fR with rfl|fR;exact h1 _ fun m x hm=>by rw[ho] at hm;cases hm
   exact h2 s' fR
  |some n=>obtain⟨h1,h2⟩:=IN xs (freeze1 n aA);refine⟨fun s' fR=>h1 s' (dV0 fR n),fun s' fR=> ?_⟩;rcases eP.1 fR with rfl|fR;exact h1 _ (dV1 ho);exact h2 s' fR
def dV7 {Im:Nat->Prop}(hE:d8 P Im w aD aA (tm a)){n:Nat}(hl:CJ aA (.t n)){v:V}(hv:iH aA n=some v):∃u,tm a n=some u/\aP Im w u v:=by
 have slot:∀{m:Nat} {x v:V},aF m aA=some x->x.isOwn=false->BK x=some v->∃u,tm a m=some u/\aP Im w u v:=by intro m x v hx ho hv;obtain⟨hs,rfl⟩:=IH hv;obtain⟨u,hu,he⟩:=hE.ent m x hx;rw[fT.res1 hs] at he;refine⟨u,hu,?_⟩;cases x<;>first |exact he|(simp[V.isOwn] at ho;done)|(simp[V.smp] at hs;done)
 unfold iH at hv;cases hx:aF n aA with
 |none=>rw[hx] at hv;cases hv
 |some x=>
  rw[hx] at hv;by_cases hs:x.names=none
  ·have dP:x.isOwn=false:=by
    cases ho:x.isOwn with|false=>rfl|true=>have:=hl n x (by simp[owner,hx,hs,ho]) hx;rw[ho] at this;exact this
   refine slot hx dP ?_;cases x<;>first |exact hv|(simp[V.names] at hs;done)
  obtain⟨u,hu,he⟩:=hE.ent n x hx;refine⟨u,hu,?_⟩;cases x with
  |al m=>simp only at hv;cases hm:aF m aA with|none=>rw[hm] at hv;cases hv|some y=>rw[hm] at hv;obtain⟨u',cP,hr⟩:=slot hm (hl m y (by simp[owner,hx,V.names]) hm) hv;have:tm a m=some u:=he;rw[this] at cP;cases cP;exact hr
  |pe m i off sz=>
   simp only at hv;cases hm:aF m aA with
   |none=>rw[hm] at hv;cases hv
   |some y=>
    rw[hm] at hv;simp only[aZ] at hv;cases hy:BK y with
    |none=>rw[hy] at hv;cases hv
    |some z=>
     rw[hy] at hv;cases z with
     |l es=>simp only at hv;cases AJ:es[i]? with|none=>rw[AJ] at hv;cases hv|some e=>rw[AJ] at hv;simp only[aZ] at hv;cases nO:sub e.cells off sz with|none=>rw[nO] at hv;cases hv|some r=>rw[nO] at hv;simp only[eB,aH] at hv;subst hv;obtain⟨ad,l,c,k,h1,rfl,h3⟩:=he;obtain⟨u',cP,hr⟩:=slot hm (hl m y (by simp[owner,hx,V.names]) hm) hy;rw[h1] at cP;cases cP;exact bV7 hr (h3 y es hm (IH hy).2.symm) AJ nO
     |_=>cases hv
  |pb m off sz=>
   simp only at hv;cases hm:aF m aA with
   |none=>rw[hm] at hv;cases hv
   |some y=>
    rw[hm] at hv;simp only[aZ] at hv;cases hy:BK y with
    |none=>rw[hy] at hv;cases hv
    |some z=>
     rw[hy] at hv;cases z with
     |r cs=>simp only at hv;cases nO:sub cs off sz with|none=>rw[nO] at hv;cases hv|some r=>rw[nO] at hv;simp only[eB,aH] at hv;subst hv;obtain⟨ad,h1,rfl⟩:=he;obtain⟨u',cP,hr⟩:=slot hm (hl m y (by simp[owner,hx,V.names]) hm) hy;rw[h1] at cP;cases cP;obtain⟨ad',vs,dZ,hS,hc,hr,dG⟩:=hr.ptr;simp only[UF,aH] at dZ;subst dZ;exact YN hS hc hr dG nO
     |_=>cases hv
  |_=>simp[V.names] at hs
end
end Go.VM
namespace Go.VM
open Go.RowKit
variable [cB]
section
variable {P:Program} {nt:Nat} {keep:List Nat} {S:Nat->Prop} {aD:Nat} {w0:World} {aA aN:aG} {a:Act} {w:World} {o:aU}
def dP4 {v:Value}{x:V}(h:Eu v=some x):x.isOwn=false/\x.smp=true/\frz x=x:=by unfold Eu at h;split at h<;>first |(cases h;exact⟨rfl,rfl,rfl⟩)|cases h
def Ob {v:Value}{x:V}(h:pR v=some x):x.isOwn=false/\x.smp=true/\frz x=x:=by
 unfold pR at h;split at h;rename_i cs;cases h1:Dp cs.toList with|none=>rw[h1] at h;cases h|some xs=>rw[h1] at h;cases h;exact⟨rfl,rfl,rfl⟩
 exact dP4 h
def FI.put_const (hF:FI P nt keep S aD w0 aA a w){d:Nat}(hk:d∈keep)(hd:d<nt){ty:TypeId}{c:Value}{v:V}(hc:Fk P ty c=some v):FI P nt keep S aD w0 (put' d v aA) (a.put (some d) c) w:=by
 unfold Fk at hc;split at hc;cases he:CG P ty with|none=>rw[he] at hc;cases hc|some e=>rw[he] at hc;cases hc;refine hF.put_own hk hd (cZ _ _) rfl (fun g hg=>by simp[dR] at hg) fun Im h1 h2 h3=>⟨Im,fun _ h=>h,fun b h=>⟨.inl h,(h2 b h).2⟩,?_⟩;exact⟨⟨[],⟨by simp,.inl ⟨rfl,rfl⟩⟩,by simp,by simp[cL],aX.nil⟩,fun g hg=>by simp[dR] at hg⟩
 cases hc;exact hF.put_rep hk hd (cZ _ _) rfl rfl fun Im _ bK _=>⟨Im,fun _ h=>h,fun b h=>⟨.inl h,(bK b h).2⟩,.um _⟩;obtain⟨h1,h2,_⟩:=Ob hc;exact hF.put_rep hk hd (cZ _ _) h2 h1 fun Im _ bK _=>⟨Im,fun _ h=>h,fun b h=>⟨.inl h,(bK b h).2⟩,Jv hc⟩
def eW {n:Nat}{u:Value}(h:tm a n=some u):a.eval (.tmp n)=u:=by have h':a.tmps[n]? =some u:=h;simp[Act.eval,vP,h']
def En (hF:FI P nt keep S aD w0 aA a w){x:Operand}{s:bF}(hs:cS x=some s){v:V}(hv:dK aA s=some v):aP (dS w) w (a.eval x) v:=by
 obtain⟨Im,_,bK,hE⟩:=hF.ents;cases x with
 |tmp n=>simp only[cS,aH] at hs;subst hs;obtain⟨u,hu,hr⟩:=RK hE (fun b h=>(bK b h).2) (show iH aA n=some v from hv);rw[eW hu];exact hr
 |const c=>simp only[cS] at hs;cases hc:pR c with|none=>rw[hc] at hs;cases hs|some c'=>rw[hc] at hs;cases hs;simp only[dK,aH] at hv;rw[(Ob hc).2.2] at hv;subst hv;exact Jv hc
 |func f=>simp only[cS,aH] at hs;subst hs;simp only[dK,aH] at hv;subst hv;exact .f _ #[] #[] [] [] rfl rfl (by simp) (by simp)|global g=>simp only[cS] at hs;cases hc:yH g with|none=>rw[hc] at hs;cases hs|some c'=>rw[hc] at hs;cases hs;simp only[dK,aH] at hv;obtain⟨cs,rfl⟩:=Rj hc;subst hv;exact(hE.glob.move (S':=dS w) (fun b h=>(bK b h).2) fun _ _=>rfl).val hc
def Dl {Im:Nat->Prop}(hE:d8 P Im w aD aA (tm a)){x:Operand}{s:bF}(hs:cS x=some s)(hl:CJ aA s){v:V}(hv:dK aA s=some v):aP Im w (a.eval x) v:=by
 cases x with
 |tmp n=>simp only[cS,aH] at hs;subst hs;obtain⟨u,hu,hr⟩:=dV7 hE hl (show iH aA n=some v from hv);rw[eW hu];exact hr
 |const c=>simp only[cS] at hs;cases hc:pR c with|none=>rw[hc] at hs;cases hs|some c'=>rw[hc] at hs;cases hs;simp only[dK,aH] at hv;rw[(Ob hc).2.2] at hv;subst hv;exact Jv hc
 |func f=>simp only[cS,aH] at hs;subst hs;simp only[dK,aH] at hv;subst hv;exact .f _ #[] #[] [] [] rfl rfl (by simp) (by simp)|global g=>simp only[cS] at hs;cases hc:yH g with|none=>rw[hc] at hs;cases hs|some c'=>rw[hc] at hs;cases hs;simp only[dK,aH] at hv;obtain⟨cs,rfl⟩:=Rj hc;subst hv;exact hE.glob.val hc
def Us (hF:FI P nt keep S aD w0 aA a w):∀{xs:List Operand} {ss:List bF} {vs:List V},srcs xs=some ss->eC aA ss=some vs->aX (dS w) w (xs.map a.eval) vs
 |[],ss,vs,hs,hv=>by simp only[srcs,aH] at hs;subst hs;simp only[eC,aH] at hv;subst hv;exact aX.nil|x::xs,ss,vs,hs,hv=>by simp only[srcs,bL,aH] at hs;obtain⟨s,h1,ss',h2,rfl⟩:=hs;simp only[eC,bL,aH] at hv;obtain⟨v,h3,dU,h4,rfl⟩:=hv;exact aX.cons (En hF h1 h3) (Us hF h2 h4)
def Ga {Im:Nat->Prop}(hE:d8 P Im w aD aA (tm a)):∀{xs:List Operand} {ss:List bF} {vs:List V},srcs xs=some ss->(∀s∈ss,CJ aA s)->eC aA ss=some vs->aX Im w (xs.map a.eval) vs
 |[],ss,vs,hs,_,hv=>by simp only[srcs,aH] at hs;subst hs;simp only[eC,aH] at hv;subst hv;exact aX.nil|x::xs,ss,vs,hs,hl,hv=>by simp only[srcs,bL,aH] at hs;obtain⟨s,h1,ss',h2,rfl⟩:=hs;simp only[eC,bL,aH] at hv;obtain⟨v,h3,dU,h4,rfl⟩:=hv;exact aX.cons (Dl hE h1 (hl s (dC ..)) h3) (Ga hE h2 (fun s hs=>hl s (dL _ hs)) h4)
def FI.put_names (hF:FI P nt keep S aD w0 aA a w){d:Nat}(hk:d∈keep)(hd:d<nt){x:V}{u:Value}{m:Nat}(hm:x.names=some m)(Au:m≠d){y:V}(hy:aF m aA=some y)(hyn:y.names=none)
  (hx:∀Im:Nat->Prop,d8 P Im w aD aA (tm a)->fT P Im w aD aA (tm a) u x):FI P nt keep S aD w0 (put' d x aA) (a.put (some d) u) w:=by
 obtain⟨Im,cE,bK,hE⟩:=hF.ents;have lN:d<a.tmps.size:=by rw[hF.size];exact hd
 have gQ:=hx Im hE;have hgm:aF m (put' d x aA)=some y:=by rw[gJ hF.srt,aK Au];cases hq:aF d aA with|none=>exact hy|some z=>simp only[hy,aZ];rw[aK (by rw[hyn];simp)]
 have hTm:tm (a.put (some d) u) m=tm a m:=(jF lN m).trans (aK Au);have dP:∀c g,¬cO (put' d x aA) (tm (a.put (some d) u)) d c g:=fun c g=>Od hF.srt (by cases x<;>simp_all[V.names,V.isOwn]) (fun ys e=>by subst e;simp[V.names] at hm) c g;refine⟨hF.srt.put' _ _,by simpa[Act.put] using hF.size,hF.defers,hF.below,hF.kept,hF.bsz,fun n z hz=> ?_,Im,cE,bK,?_⟩;by_cases hn:n=d;subst hn;exact⟨hk,hd⟩;rw[gJ hF.srt,aK hn] at hz;cases hq:aF d aA with|none=>rw[hq] at hz;exact hF.keys n z hz|some z'=>rw[hq] at hz;simp only at hz;cases kC:aF n aA with|none=>rw[kC] at hz;cases hz|some y'=>exact hF.keys n y' kC
 refine hE.put hF.srt d x u ((jF lN d).trans (aY rfl)) (fun k y hk _=>(jF lN k).trans (aK hk)) ?_ (fun k hk=> ?_) (fun c g ho=>absurd ho (dP c g)) (fun c c' g ho=>absurd ho (dP c g));cases x with
 |al k=>
  have:k=m:=by simpa[V.names] using hm
  subst this;exact hTm.trans gQ
 |pe k i off sz=>
  have:k=m:=by simpa[V.names] using hm
  subst this;obtain⟨ad,l,c,kk,h1,h2,h3⟩:=gQ;refine⟨ad,l,c,kk,hTm.trans h1,h2,fun z es hz=> ?_⟩;rw[hgm] at hz;cases hz;exact h3 y es hy
 |pb k off sz=>
  have:k=m:=by simpa[V.names] using hm
  subst this;obtain⟨ad,h1,h2⟩:=gQ;exact⟨ad,hTm.trans h1,h2⟩
 |_=>simp[V.names] at hm
 rw[hm] at hk;cases hk;exact⟨Au,y,hy,hyn⟩
def cZ7 (hF:FI P nt keep S aD w0 aA a w){d:Nat}(hk:d∈keep)(hd:d<nt){ty:TypeId}{x:Operand}{s:bF}(hs:m9 P ty x=some s)(lA:∀n ys,s= .t n->aF n aA≠some (.t ys))(aC:bS o aA (.mv d s)=some aN):FI P nt keep S aD w0 aN (a.put (some d) (a.eval x)) w:=by
 cases x with
 |const c=>simp only[m9] at hs;cases hc:Fk P ty c with|none=>rw[hc] at hs;cases hs|some v=>rw[hc] at hs;cases hs;simp only[bS,aH] at aC;subst aC;exact hF.put_const hk hd hc
 |func f=>simp only[m9,aH] at hs;subst hs;simp only[bS,aH] at aC;subst aC;exact hF.put_rep hk hd (cZ _ _) rfl rfl fun Im _ bK _=>⟨Im,fun _ h=>h,fun b h=>⟨.inl h,(bK b h).2⟩,.f _ #[] #[] [] [] rfl rfl (by simp) (by simp)⟩|global g=>simp[m9] at hs
 |tmp n=>
  simp only[m9,aH] at hs;subst hs;simp only[bS] at aC;cases hx:aF n aA with
  |none=>rw[hx] at aC;cases aC
  |some y=>
   rw[hx] at aC;simp only[aZ] at aC;obtain⟨zQ,_,_,lO⟩:=hF.ents;obtain⟨u,hu,By⟩:=lO.ent n y hx;have iQ:=eW hu;rw[iQ];have main:∀(aC:(if d=n\/y.names=some d then none else some (put' d (if y.isOwn then .al n else y) aA))=some aN) (FK:∀ys,y≠ .t ys) (hy2:y≠ .ud),FI P nt keep S aD w0 aN (a.put (some d) u) w:=by
    intro aC FK hy2;split at aC;cases aC
    ·rename_i bM;cases aC;by_cases cA:y.isOwn=true;rw[aY cA];exact hF.put_names hk hd (m:=n) rfl (fun e=>bM (.inl e.symm)) hx (by cases y<;>simp_all[V.isOwn,V.names]) fun Im hE=>hu
     ·rw[aK cA];by_cases jQ:y.names=none
      ·have s9:y.smp=true:=by cases y<;>simp_all[V.names,V.smp]
       refine hF.put_rep hk hd (cZ _ _) s9 (by simpa using cA) fun Im _ bK hE=>⟨Im,fun _ h=>h,fun b h=>⟨.inl h,(bK b h).2⟩,?_⟩;obtain⟨u',cP,he⟩:=hE.ent n y hx;have:=hu.symm.trans cP;cases this;rw[fT.res1 s9] at he;cases y<;>first |exact he|(simp[V.isOwn] at cA;done)|(simp[V.smp] at s9;done)
      obtain⟨m,hm⟩:=Option.ne_none_iff_exists'.1 jQ;obtain⟨z,hz,jZ⟩:=lO.closed n y m hx hm;refine hF.put_names hk hd hm (fun e=>bM (.inr (by rw[hm,e]))) hz jZ fun Im hE=> ?_;obtain⟨u',cP,he⟩:=hE.ent n y hx;have:=hu.symm.trans cP;cases this;exact he
   cases y<;>first |exact absurd hx (lA n _ rfl)|exact main aC (by simp) (by simp)|cases aC
end
end Go.VM
namespace Go.VM
open Go.RowKit
variable [cB]
section
variable {P:Program} {nt:Nat} {keep:List Nat} {S:Nat->Prop} {aD:Nat} {w0:World} {aA aN:aG} {a:Act} {w:World} {o:aU}
def VS {y:V}(h:y.isOwn=true):y.smp=true/\y.names=none/\∀ys,y≠ .t ys:=by cases y<;>simp_all[V.isOwn,V.smp,V.names]
def FI.hand (hF:FI P nt keep S aD w0 aA a w){d:Nat}(hk:d∈keep)(hd:d<nt){m:Nat}{y:V}(hy:aF m aA=some y)(cA:y.isOwn=true)(Au:m≠d){u:Value}(hu:tm a m=some u):
  FI P nt keep S aD w0 (hand m d y aA) (a.put (some d) u) w:=by
 obtain⟨Im,cE,bK,hE⟩:=hF.ents;have lN:d<a.tmps.size:=by rw[hF.size];exact hd
 obtain⟨s9,jQ,lA⟩:=VS cA;have Dz:cH (cN m aA):=hF.srt.filter _;have fM:cH (eH m (cN m aA)):=Dz.filter _;have hg1:∀k,aF k (eH m (cN m aA))=if k=m then none else aF k (cN m aA):=fun k=>f' Dz m k;have k9:∀k x,aF k (eH m (cN m aA))=some x->aF k aA=some x/\k≠m/\x.names≠some m:=by intro k x hx;rw[hg1] at hx;split at hx;cases hx;rename_i zH;rw[uH hF.srt] at hx;cases hq:aF k aA with|none=>rw[hq] at hx;cases hx|some z=>rw[hq] at hx;simp only[aZ] at hx;split at hx;cases hx;cases hx;exact⟨rfl,zH,‹_›⟩
 have ME:∀k x,k≠m->aF k aA=some x->x.names≠some m->aF k (eH m (cN m aA))=some x:=by intro k x zH hx hn;rw[hg1,aK zH,uH hF.srt,hx];simp only[aZ];rw[aK hn]
 have AN:d8 P Im w aD (eH m (cN m aA)) (tm a):=hE.sub (fun k x hx=>(k9 k x hx).1) fun k x j hx hj=>by obtain⟨h1,_,h3⟩:=k9 k x hx;obtain⟨z,hz,jZ⟩:=hE.closed k x j h1 hj;have hjm:j≠m:=fun e=>h3 (by rw[<-e];exact hj);exact⟨z,ME j z hjm hz (by rw[jZ];simp),jZ⟩
 obtain⟨u',cP,he⟩:=hE.ent m y hy;have:=hu.symm.trans cP;cases this;have hTd:tm (a.put (some d) u) d=some u:=(jF lN d).trans (aY rfl);have hTm:tm (a.put (some d) u) m=some u:=((jF lN m).trans (aK Au)).trans hu;have ho1:∀c g,cO (put' d y (eH m (cN m aA))) (tm (a.put (some d) u)) d c g->c=none/\dR u=some g:=by
  intro c g h;cases c with
  |none=>obtain⟨z,v,hz,_,hT,hg⟩:=h;rw[hTd] at hT;cases hT;exact⟨rfl,hg⟩
  |some j=>obtain⟨ys,_,_,_,hz,_⟩:=h;rw[gJ fM,aY rfl] at hz;cases hz;exact absurd rfl (lA ys)
 have Cr:d8 P Im w aD (put' d y (eH m (cN m aA))) (tm (a.put (some d) u)):=by
  refine AN.put fM d y u hTd (fun k z hk _=>(jF lN k).trans (aK hk)) ?_ (fun k hk=>by rw[jQ] at hk;cases hk) (fun c g h n' c' kC h'=> ?_) (fun c c' g h h'=>(ho1 c g h).1.trans (ho1 c' g h').1.symm);rw[fT.res1 s9] at he⊢;exact he;have hg:=(ho1 c g h).2;have h'':cO aA (tm a) n' c' g/\n'≠m:=by
   cases c' with
   |none=>obtain⟨x,v,hx,h⟩:=h';exact⟨⟨x,v,(k9 _ _ hx).1,h⟩,(k9 _ _ hx).2.1⟩
   |some j=>obtain⟨ys,us,x,v,hx,h⟩:=h';exact⟨⟨ys,us,x,v,(k9 _ _ hx).1,h⟩,(k9 _ _ hx).2.1⟩
  exact h''.2 (hE.apart _ _ m none g h''.1 ⟨y,u,hy,cA,hu,hg⟩).1
 have cJ:cH (put' d y (eH m (cN m aA))):=fM.put' _ _;have hgm:aF m (put' d y (eH m (cN m aA)))=none:=by rw[gJ fM,aK Au,hg1 m,aY rfl];cases aF d (eH m (cN m aA))<;>rfl
 have yC:aF d (put' d y (eH m (cN m aA)))=some y:=by rw[gJ fM,aY rfl]
 have dP:∀c g,¬cO (put' m (.al d) (put' d y (eH m (cN m aA)))) (tm (a.put (some d) u)) m c g:=Od cJ rfl (by simp);have hE3:d8 P Im w aD (put' m (.al d) (put' d y (eH m (cN m aA)))) (tm (a.put (some d) u)):=
  Cr.put cJ m (.al d) u hTm (fun _ _ _ _=>rfl) hTd (fun k hk=>by cases hk;exact⟨fun e=>Au e.symm,y,yC,jQ⟩) (fun c g h=>absurd h (dP c g)) (fun c c' g h=>absurd h (dP c g))
 have hgk:∀k,aF k (VM.hand m d y aA)=aF k (put' m (.al d) (put' d y (eH m (cN m aA)))):=by intro k;unfold VM.hand;rw[kZ,gJ cJ,hgm];split;rfl;rename_i zH;simp only;rw[gJ Dz,gJ fM];split;rfl;rw[hg1 d,aK (fun e=>Au e.symm),hg1 k,aK zH]
 refine⟨(Dz.put' d y).put m _,by simpa[Act.put] using hF.size,hF.defers,hF.below,hF.kept,hF.bsz,fun k x hx=> ?_,Im,cE,bK,hE3.ext hgk⟩;by_cases zH:k=m;rw[zH];exact hF.keys m y hy;by_cases eN:k=d;rw[eN];exact⟨hk,hd⟩;rw[hgk,gJ cJ,hgm,aK zH] at hx;simp only at hx;rw[gJ fM,aK eN] at hx;cases hq:aF d (eH m (cN m aA)) with|none=>rw[hq] at hx;exact hF.keys k x (k9 k x hx).1|some z=>rw[hq] at hx;simp only at hx;cases dE:aF k (eH m (cN m aA)) with|none=>rw[dE] at hx;cases hx|some z'=>exact hF.keys k z' (k9 k z' dE).1
def FI.put_same (hF:FI P nt keep S aD w0 aA a w){d:Nat}(hk:d∈keep)(hd:d<nt){n:Nat}{y:V}(hy:aF n aA=some y)(hs:y.smp=true)(ho:y.isOwn=false){u:Value}(hu:tm a n=some u):FI P nt keep S aD w0 (put' d y aA) (a.put (some d) u) w:=by refine hF.put_rep hk hd (cZ _ _) hs ho fun Im _ bK hE=>⟨Im,fun _ h=>h,fun b h=>⟨.inl h,(bK b h).2⟩,?_⟩;obtain⟨u',cP,he⟩:=hE.ent n y hy;have:=hu.symm.trans cP;cases this;rw[fT.res1 hs] at he;cases y<;>first |exact he|(simp[V.isOwn] at ho;done)|(simp[V.smp] at hs;done)
def dB1 (hF:FI P nt keep S aD w0 aA a w){d:Nat}(hk:d∈keep)(hd:d<nt){ty:TypeId}{x:Operand}{s:bF}(hs:m9 P ty x=some s)(aC:bS o aA (.as d s)=some aN):FI P nt keep S aD w0 aN (a.put (some d) (a.eval x)) w:=by
 cases x with
 |const c=>simp only[m9] at hs;cases hc:Fk P ty c with|none=>rw[hc] at hs;cases hs|some v=>rw[hc] at hs;cases hs;simp only[bS,aH] at aC;subst aC;exact hF.put_const hk hd hc
 |func f=>simp only[m9,aH] at hs;subst hs;simp only[bS,aH] at aC;subst aC;exact hF.put_rep hk hd (cZ _ _) rfl rfl fun Im _ bK _=>⟨Im,fun _ h=>h,fun b h=>⟨.inl h,(bK b h).2⟩,.f _ #[] #[] [] [] rfl rfl (by simp) (by simp)⟩|global g=>simp[m9] at hs
 |tmp n=>
  simp only[m9,aH] at hs;subst hs;simp only[bS] at aC;cases hx:aF n aA with
  |none=>rw[hx] at aC;cases aC
  |some y=>
   rw[hx] at aC;simp only[aZ] at aC;obtain⟨zQ,_,_,lO⟩:=hF.ents;obtain⟨u,hu,By⟩:=lO.ent n y hx;have iQ:=eW hu;rw[iQ];have main:∀(m:Nat) (z:V),aF m aA=some z->tm a m=some u->z.smp=true->(if z.isOwn=true then if m=d then none else some (hand m d z aA) else some (put' d z aA))=some aN->FI P nt keep S aD w0 aN (a.put (some d) u) w:=by intro m z hz hm gP h;split at h;split at h;cases h;cases h;exact hF.hand hk hd hz ‹_› ‹_› hm;cases h;exact hF.put_same hk hd hz gP (by simpa using ‹¬ z.isOwn=true›) hm
   cases y with
   |al m=>
    simp only at aC;cases hz:aF m aA with
    |none=>rw[hz] at aC;cases aC
    |some z=>
     rw[hz] at aC;simp only[aZ] at aC;have jZ:z.names=none:=by obtain⟨z',gC,hn⟩:=lO.closed n _ m hx rfl;rw[hz] at gC;cases gC;exact hn
     cases z<;>first |exact main m _ hz By rfl aC|(simp[V.names] at jZ;done)|(cases aC;done)
   |_=>first |exact main n _ hx hu rfl aC|cases aC
def YZ {Im:Nat->Prop}{u:Value}{y:V}{es:List V}(h:fL P Im w aD u y)(hy:frz y= .l es)(bM:es≠[]):
  ∃(ad:Addr) (c k:Nat) (vs:List Value),u= .slice (some ad) es.length c/\(∀e∈es,e.cells.length=k)/\(∀x∈cL es,x.cell=true)/\aX Im w vs (cL es)/\∀(j:Nat) u,vs[j]? =some u->w.cell? (ad.add j)=some u:=by
 cases y with
 |l bW=>simp only[frz,V.l.injEq] at hy;subst hy;obtain⟨ad,c,k,vs,rfl,hk,h1,hr,_,hd⟩:=aP.slice h;rcases hd with rfl|⟨ad,rfl,_,hu⟩;exact absurd rfl bM;exact⟨ad,c,k,vs,rfl,hk,h1,hr,hu⟩
 |ow e bW=>simp only[frz,V.l.injEq] at hy;subst hy;obtain⟨⟨vs,⟨hl,hv⟩,hk,h1,hr⟩,_⟩:=h;rcases hv with⟨_,h0⟩|⟨g,cap,cur,rfl,jR,hh,hn,_,dA,ht⟩;exact absurd (pL h0) bM;refine⟨⟨g,0,none⟩,cap,_,vs,rfl,hk,h1,hr,fun j u hj=> ?_⟩;rw[<-ht,qE] at hj;split at hj;simp only[World.cell?,wZ,hh];unfold Addr.add;split;rename_i hj0;subst hj0;simpa using hj;simpa using hj;cases hj
 |_=>simp[frz] at hy
def dC6 {Im:Nat->Prop}{u:Value}{y:V}{cs:List V}(h:fL P Im w aD u y)(hy:frz y= .r cs):
  ∃(ad:Addr) (vs:List Value),u= .pointer (some ad)/\(∀x∈cs,x.cell=true)/\aX Im w vs cs/\∀(j:Nat) u,vs[j]? =some u->w.cell? (ad.add j)=some u:=by
 cases y with
 |r cs'=>simp only[frz,V.r.injEq] at hy;subst hy;obtain⟨ad,vs,rfl,_,h1,hr,hu⟩:=aP.ptr h;exact⟨ad,vs,rfl,h1,hr,hu⟩
 |bx cs'=>simp only[frz,V.r.injEq] at hy;subst hy;obtain⟨⟨g,vs,ty,rfl,hb,hh,h1,hr⟩,_⟩:=h;refine⟨_,vs,rfl,h1,hr,fun j u hj=> ?_⟩;simp only[World.cell?,wZ,hh];unfold Addr.add;split;rename_i hj0;subst hj0;simpa using hj;simpa using hj
 |_=>simp[frz] at hy
def YO {ad:Addr}{vs:List Value}(hu:∀(j:Nat) u,vs[j]? =some u->w.cell? (ad.add j)=some u)(off n:Nat):∀(j:Nat) u,((vs.drop off).take n)[j]? =some u->w.cell? ((ad.add off).add j)=some u:=by intro j u hj;rw[qE] at hj;split at hj;rw[xD] at hj;rw[EQ];exact hu _ u hj;cases hj
def bL5 {Im:Nat->Prop}(hE:d8 P Im w aD aA (tm a)){n:Nat}{cs:List V}(hv:iH aA n=some (.r cs)):
  ∃(ad:Addr) (vs:List Value),tm a n=some (.pointer (some ad))/\(∀x∈cs,x.cell=true)/\aX Im w vs cs/\∀(j:Nat) u,vs[j]? =some u->w.cell? (ad.add j)=some u:=by
 have box:∀{m:Nat} {x:V} {cs:List V},aF m aA=some x->BK x=some (.r cs)->∃(ad:Addr) (vs:List Value),tm a m=some (.pointer (some ad))/\(∀x∈cs,x.cell=true)/\aX Im w vs cs/\∀(j:Nat) u,vs[j]? =some u->w.cell? (ad.add j)=some u:=by intro m x cs hx hr;obtain⟨hs,hf⟩:=IH hr;obtain⟨u,hu,he⟩:=hE.ent m x hx;rw[fT.res1 hs] at he;obtain⟨ad,vs,rfl,h⟩:=dC6 he hf.symm;exact⟨ad,vs,hu,h⟩
 unfold iH at hv;cases hx:aF n aA with
 |none=>rw[hx] at hv;cases hv
 |some x=>
  rw[hx] at hv;cases x with
  |al m=>simp only at hv;obtain⟨u,hu,he⟩:=hE.ent n _ hx;cases hm:aF m aA with|none=>rw[hm] at hv;cases hv|some y=>rw[hm] at hv;obtain⟨ad,vs,h1,h⟩:=box hm hv;have:tm a m=some u:=he;have:=this.symm.trans h1;cases this;exact⟨ad,vs,hu,h⟩
  |pe m i off sz=>
   simp only at hv;obtain⟨u,hu,ad,l,c,k,h1,rfl,h3⟩:=hE.ent n _ hx;cases hm:aF m aA with
   |none=>rw[hm] at hv;cases hv
   |some y=>
    rw[hm] at hv;simp only[aZ] at hv;cases hy:BK y with
    |none=>rw[hy] at hv;cases hv
    |some z=>
     rw[hy] at hv;cases z with
     |l es=>
      simp only at hv;cases AJ:es[i]? with
      |none=>rw[AJ] at hv;cases hv
      |some e=>
       rw[AJ] at hv;simp only[aZ] at hv;cases nO:sub e.cells off sz with
       |none=>rw[nO] at hv;cases hv
       |some r=>
        rw[nO] at hv;simp only[eB,aH,V.r.injEq] at hv;subst hv;obtain⟨hs,hf⟩:=IH hy;obtain⟨u',cP,he⟩:=hE.ent m y hm;rw[fT.res1 hs] at he;have bM:es≠[]:=fun e=>by subst e;simp at AJ
        obtain⟨ad',c',k',vs,rfl,hk,hc,hr,dG⟩:=YZ he hf.symm bM;have:=h1.symm.trans cP;simp only[aH,UG] at this;obtain⟨rfl,_,_⟩:=this;have gD:=h3 y es hm hf.symm;rw[<-KS gD AJ] at nO;have nC:=((hr.drop (i*k)).take k).sub nO;obtain⟨_,rfl⟩:=Hy nO;refine⟨_,_,hu,fun x hx=> ?_,nC,?_⟩;exact hc x (qX (qF (qX (qF hx))));rw[<-EQ];exact YO (YO dG (i*k) k) off sz
     |_=>cases hv
  |pb m off sz=>
   simp only at hv;obtain⟨u,hu,ad,h1,rfl⟩:=hE.ent n _ hx;cases hm:aF m aA with
   |none=>rw[hm] at hv;cases hv
   |some y=>
    rw[hm] at hv;simp only[aZ] at hv;cases hy:BK y with
    |none=>rw[hy] at hv;cases hv
    |some z=>
     rw[hy] at hv;cases z with
     |r cs0=>simp only at hv;cases nO:sub cs0 off sz with|none=>rw[nO] at hv;cases hv|some r=>rw[nO] at hv;simp only[eB,aH,V.r.injEq] at hv;subst hv;obtain⟨ad',vs,cP,hc,hr,dG⟩:=box hm hy;have:=h1.symm.trans cP;cases this;have nC:=hr.sub nO;obtain⟨_,rfl⟩:=Hy nO;exact⟨_,_,hu,fun x hx=>hc x (qX (qF hx)),nC,YO dG off sz⟩
     |_=>cases hv
  |_=>exact box hx hv
def dJ1 {op:Op}{n:Nat}{ag:Bool}{xs:List Operand}(h:wI P op=some (.ld n ag,xs)):∃t x,op= .load t x/\xs=[x]/\((P.underlying t).isSome&&(eJ P t||P.cellsOf t==1))=true/\n=P.cellsOf t/\ag=eJ P t:=by
 rcases VK h with hp|⟨f,args,tys,_,he,_⟩|⟨x,args,tys,_,he,_⟩|⟨t,n,ps,k,_,_,_,he,_⟩
 ·cases op with
  |load t x=>simp only[wI] at h;split at h;simp only[aH,cM,jU.ld.injEq] at h;obtain⟨⟨rfl,rfl⟩,rfl⟩:=h;exact⟨t,x,rfl,rfl,‹_›,rfl,rfl⟩;cases h
  |_=>exfalso;revert h;simp only[wI];intro h;(repeat' split at h)<;>simp_all[bL]
 cases he;cases he;cases he
def bM3 {Im:Nat->Prop}{t:TypeId}(cR:((P.underlying t).isSome&&(eJ P t||P.cellsOf t==1))=true){ad:Addr}{cs:List V}{vs:List Value}{v:V}(hc:∀x∈cs,x.cell=true)(hr:aX Im w vs cs)(dG:∀(j:Nat) u,vs[j]? =some u->w.cell? (ad.add j)=some u)
  (hl:cs.length=P.cellsOf t)(hv:(if eJ P t=true then some (V.a cs) else cs[0]?)=some v):∃u,aP Im w u v/\(Instr.loadAt t (.pointer (some ad))).run P w= .ok u w:=by
 simp only[fA,tK,pM] at cR;obtain⟨fM,cJ⟩:=cR;obtain⟨d,hd⟩:=E1.1 fM;cases ha:eJ P t with
 |true=>rw[ha] at hv;simp only[jA,aH] at hv;subst hv;refine⟨.agg vs.toArray,aP.mk_agg hc hr,?_⟩;have hL:(loadCells ad vs.length).run P w= .ok vs.toArray w:=Nd w ad vs dG;simp only[Instr.loadAt,Instr.sureAddr,dX,eU,dQ,loadVar,tH hd,ha,jA,H' hd,<-hl,<-hr.1,hL]
 |false=>
  rw[ha] at hv;simp only[qW,mW] at hv;obtain⟨u,cP,pD⟩:=hr.getD hv;refine⟨u,pD,?_⟩;have h0:w.cell? ad=some u:=by simpa[Addr.add] using dG 0 u cP
  simp only[Instr.loadAt,Instr.sureAddr,dX,eU,dQ,loadVar,tH hd,ha,qW,mW];rw[run_load];simp[h0]
end
end Go.VM
namespace Go.VM
open Go.RowKit
variable [cB]
section
variable {P:Program} {nt:Nat} {keep:List Nat} {S:Nat->Prop} {aD:Nat} {w0:World} {aA aN:aG} {a:Act} {w:World} {o:aU}
def FI.put_run (hF:FI P nt keep S aD w0 aA a w){d:Nat}(hk:d∈keep)(hd:d<nt){x:V}{s:Sem Next}{w1:World}(hb:Below w.heap.size w w1)
  (h:∀Im:Nat->Prop,(∀b,S b->Im b)->(∀b,Im b->(S b\/aD<=b)/\b<w.heap.size)->d8 P Im w aD aA (tm a)->∃u,s.run P w= .ok (.value u) w1/\x.smp=true/\∃mK:Nat->Prop,(∀b,Im b->mK b)/\(∀b,mK b->(Im b\/w.heap.size<=b)/\b<w1.heap.size)/\aP mK w1 u x):
  ∃u,s.run P w= .ok (.value u) w1/\FI P nt keep S aD w0 (put' d x aA) (a.put (some d) u) w1:=by
 obtain⟨zQ,h1,h2,lO⟩:=hF.ents;obtain⟨u,hu,s9,mK,_,_,hr⟩:=h zQ h1 h2 lO;refine⟨u,hu,hF.put_rep hk hd hb s9 (Ya hr) fun Im h3 h4 hE=> ?_⟩;obtain⟨u',cP,_,Im1',h5,h6,mQ⟩:=h Im h3 h4 hE;have:=hu.symm.trans cP;simp only[Result.ok.injEq,Next.value.injEq,jJ] at this;subst this;exact⟨Im1',h5,h6,mQ⟩
def Qr {u:Value}{v:V}(h:aP S w u v)(hv:∀ys,v≠ .t ys):v.smp=true:=by rcases(I9 h).2.2 with h|⟨ys,rfl⟩;exact h;exact absurd rfl (hv ys)
def dV9 {Im:Nat->Prop}(hE:d8 P Im w aD aA (tm a)){x:Operand}{s:bF}(hs:cS x=some s){cs:List V}(hv:dK aA s=some (.r cs)):
  ∃(ad:Addr) (vs:List Value),a.eval x= .pointer (some ad)/\(∀x∈cs,x.cell=true)/\aX Im w vs cs/\∀(j:Nat) u,vs[j]? =some u->w.cell? (ad.add j)=some u:=by
 cases x with
 |tmp n=>simp only[cS,aH] at hs;subst hs;obtain⟨ad,vs,h1,h⟩:=bL5 hE hv;exact⟨ad,vs,eW h1,h⟩
 |const c=>simp only[cS] at hs;cases hc:pR c with|none=>rw[hc] at hs;cases hs|some c'=>rw[hc] at hs;cases hs;simp only[dK,aH] at hv;rw[(Ob hc).2.2] at hv;subst hv;exfalso;unfold pR at hc;split at hc;rename_i cs';cases h:Dp cs'.toList<;>rw[h] at hc<;>cases hc;unfold Eu at hc;split at hc<;>cases hc
 |func f=>simp only[cS,aH] at hs;subst hs;simp[dK,frz] at hv|global g=>simp only[cS] at hs;cases hc:yH g with|none=>rw[hc] at hs;cases hs|some c'=>rw[hc] at hs;cases hs;simp only[dK,aH] at hv;obtain⟨cs',rfl⟩:=Rj hc;cases hv;obtain⟨ad,vs,h1,_,h2,h3,h4⟩:=(hE.glob.val hc).ptr;exact⟨ad,vs,h1,h2,h3,h4⟩
def YS (hF:FI P nt keep S aD w0 aA a w){d:Nat}(hk:d∈keep)(hd:d<nt){op:Op}{p:jU}{xs:List Operand}{ss:List bF}(hq:wI P op=some (p,xs))(hp:p.plain=true)(hs:srcs xs=some ss){oper:Oper}(aO:oper.op=op)
  {vs:List V}(hl:eC aA ss=some vs){r:V}(hv:aS o p vs=some r)(hr:∀ys,r≠ .t ys):∃u,(execOp a.eval oper).run P w= .ok (.value u) w/\FI P nt keep S aD w0 (put' d r (freeze aA ss)) (a.put (some d) u) w:=by
 refine(hF.freeze ss).put_run hk hd (cZ _ _) fun Im h1 h2 hE=> ?_;obtain⟨u,hu,bY⟩:=VJ hq hp a.eval oper aO vs r (Ga hE hs (IN ss aA).2 (by rw[Jz];exact hl)) hv;exact⟨u,bY w fun _ _=>rfl,Qr hu hr,Im,fun _ h=>h,fun b h=>⟨.inl h,(h2 b h).2⟩,hu⟩
def dA4 (hF:FI P nt keep S aD w0 aA a w){d:Nat}(hk:d∈keep)(hd:d<nt){op:Op}{off n:Nat}{ag:Bool}{xs:List Operand}{ss:List bF}(hq:wI P op=some (.fld off n ag,xs))(hp:(jU.fld off n ag).plain=true)(hs:srcs xs=some ss){oper:Oper}(aO:oper.op=op)
  {vs:List V}(hl:eC aA ss=some vs){r:V}(hv:aS o (.fld off n ag) vs=some r):∃u,(execOp a.eval oper).run P w= .ok (.value u) w/\FI P nt keep S aD w0 (put' d r aA) (a.put (some d) u) w:=by
 match vs,hv with
 |[.a cs],hv=>
  match ss,hl with
  |[s],hl=>
   have hls:dK aA s=some (.a cs):=by simp only[eC,bL,aH,gG] at hl;obtain⟨v,h1,_,rfl,rfl,_⟩:=hl;exact h1
   have hfr:VM.freeze aA [s]=aA:=by
    show(match owner aA s with |some n=>VM.freeze1 n aA|none=>aA)=aA;cases s with
    |c v=>rfl
    |t m=>
     have vE:iH aA m=some (.a cs):=hls;unfold iH at vE;cases hx:aF m aA with
     |none=>rw[hx] at vE;cases vE
     |some x=>
      rw[hx] at vE;cases x<;>first |(simp[BK,frz] at vE;done)|(simp[owner,hx,V.names,V.isOwn];done)|skip
      ·rename_i j;simp only at vE;cases hy:aF j aA with|none=>rw[hy] at vE;cases vE|some y=>rw[hy] at vE;cases y<;>first |(simp[BK,frz] at vE;done)|(simp[owner,hx,V.names,VM.freeze1,hy,V.isOwn];done)|skip
      all_goals(
       simp only at vE;split at vE
       ·first |(simp only[bL,gY] at vE;obtain⟨_,_,_,_,h⟩:=vE;cases h;done)|(simp only[gY] at vE;obtain⟨_,_,h⟩:=vE;cases h;done)
       cases vE)
   have hc:∀x∈cs,x.cell=true:=by
    obtain⟨u,pD⟩:∃u,aP (dS w) w u (.a cs):=by
     obtain⟨s',fR,ss',AG,he⟩:∃x,∃hx:srcs [x]=some [s],True/\True:=by
      match xs,hs with|[x],hs=>exact⟨x,hs,trivial,trivial⟩|[],hs=>simp[srcs] at hs|_::_::_,hs=>simp[srcs,bL] at hs
     exact⟨_,(Us hF fR (show eC aA [s]=some [.a cs] by simp[eC,hls])).head⟩
    obtain⟨_,_,h,_⟩:=aP.agg pD;exact h
   have:=YS hF hk hd hq hp hs aO (vs:=[.a cs]) hl hv fun ys e=>by subst e;simp only[aS,bL] at hv;obtain⟨q,dE,hv⟩:=hv;split at hv;cases hv;obtain⟨_,k9⟩:=Hy dE;have hm:=k6 hv;rw[k9] at hm;exact absurd (hc _ (qX (qF hm))) (by simp[V.cell])
   rwa[hfr] at this
  |[],hl=>simp[eC] at hl|_::_::_,hl=>simp[eC,bL] at hl
def YT (hF:FI P nt keep S aD w0 aA a w){d:Nat}(hk:d∈keep)(hd:d<nt){op:Op}{p:jU}{xs:List Operand}{ss:List bF}(hq:wI P op=some (p,xs))(hp:p.plain=true)(hs:srcs xs=some ss){oper:Oper}(aO:oper.op=op)
  (aC:bS o aA (.q d p ss)=some aN):∃u,(execOp a.eval oper).run P w= .ok (.value u) w/\FI P nt keep S aD w0 aN (a.put (some d) u) w:=by
 simp only[bS] at aC;cases hl:eC aA ss with
 |none=>rw[hl] at aC;cases aC
 |some vs=>
  rw[hl] at aC;simp only[aZ] at aC;cases hv:aS o p vs with
  |none=>rw[hv] at aC;cases aC
  |some r=>
   rw[hv] at aC;simp only[aZ] at aC;split at aC
   ·rename_i fC;cases aC;by_cases hf1:r.flat1=true;obtain⟨u,hu,bY⟩:=VJ hq hp a.eval oper aO vs r (Us hF hs hl) hv;exact⟨u,bY w fun _ _=>rfl,hF.put_flat hk hd (cZ _ _) hu hf1⟩
    ·have hld:p.loads=true:=by simpa[hf1] using fC
     cases p<;>first |(simp[jU.loads] at hld;done)|skip
     rename_i off n ag;exact dA4 hF hk hd hq hp hs aO hl hv;rename_i n ag;obtain⟨t,x,rfl,rfl,cR,rfl,rfl⟩:=dJ1 hq;obtain⟨cs,rfl,cK,lL⟩:=Zv hv;simp only[srcs,bL,aH] at hs;obtain⟨s,hsx,_,rfl,rfl⟩:=hs;simp only[eC,bL,aH,gG] at hl;obtain⟨v,hls,_,rfl,rfl,_⟩:=hl;refine hF.put_run hk hd (cZ _ _) fun Im h1 h2 hE=> ?_;obtain⟨ad,us,iQ,hc,hr,dG⟩:=dV9 hE hsx hls;obtain⟨u,pD,bY⟩:=bM3 cR hc hr dG cK lL;refine⟨u,by simp only[execOp,aO,iQ,dX,bY,dQ,eU],Qr pD fun ys e=> ?_,Im,fun _ h=>h,fun b h=>⟨.inl h,(h2 b h).2⟩,pD⟩;subst e;split at lL;cases lL;exact absurd (hc _ (k6 lL)) (by simp[V.cell])
   cases aC
def eL9 {t:TypeId}{fs:Array Field}{i:Nat}{f:Field}(hu:P.underlying t=some (.struct fs))(hf:fs[i]? =some f)(lE:0<P.cellsOf f.type)(ad:Addr):
  (Instr.fieldAt t (.pointer (some ad)) i).run P w= .ok (.pointer (some (ad.add f.offset))) w:=by
 obtain⟨i0,wQ⟩:∃i0,P.info? f.type=some i0:=by unfold Program.cellsOf at lE;cases h:P.info? f.type with|none=>rw[h] at lE;simp at lE|some i0=>exact⟨i0,rfl⟩
 have bM:P.cellsOf f.type≠0:=by omega
 simp[Instr.fieldAt,eE hu,hf,Instr.sureAddr,fieldPlace,run_sizeOf w wQ,bM]
def eG9 {t e:TypeId}(hu:P.underlying t=some (.slice e))(he:(P.underlying e).isSome=true)(ad:Addr)(l c:Nat)(k:IntKind)(n:Int)(h0:0<=n)(hn:n.toNat<l):
  (Instr.indexAt t (.slice (some ad) l c) (.int k n)).run P w= .ok (.pointer (some (ad.add (n.toNat*P.cellsOf e)))) w:=by
 obtain⟨d,hd⟩:=E1.1 he;have:n<(l:Int):=by omega
 simp[Instr.indexAt,asIntOf,eE hu,h0,this,H' hd]
def dA3 (hF:FI P nt keep S aD w0 aA a w){d:Nat}(hk:d∈keep)(hd:d<nt){t e:TypeId}{x i:Operand}{s j:bF}{oper:Oper}(aO:oper.op= .indexAddr t x i)(hu:P.underlying t=some (.slice e))(he:(P.underlying e).isSome=true)
  (hs:cS x=some s)(hj:cS i=some j)(aC:bS o aA (.ix d (P.cellsOf e) s j)=some aN):∃u,(execOp a.eval oper).run P w= .ok (.value u) w/\FI P nt keep S aD w0 aN (a.put (some d) u) w:=by
 simp only[bS] at aC;cases hlj:dK aA j with
 |none=>rw[hlj] at aC;cases aC
 |some jv=>
  rw[hlj] at aC;simp only[aZ] at aC;cases jv<;>first |(cases aC;done)|skip
  rename_i kk m;simp only at aC;split at aC
  ·rename_i h0;have hiv:=En hF hj hlj;have heval:a.eval i= .int kk m:=by generalize a.eval i=q at hiv;cases hiv;rfl
   cases hls:dK aA s with
   |none=>rw[hls] at aC;cases aC
   |some sv=>
    rw[hls] at aC;simp only[aZ] at aC;cases sv<;>first |(cases aC;done)|skip
    rename_i es;simp only at aC;cases iR:es[m.toNat]? with
    |none=>rw[iR] at aC;cases aC
    |some el=>
     rw[iR] at aC;simp only[aZ] at aC;have bE:m.toNat<es.length:=(fE.1 iR).1;have bM:es≠[]:=fun e=>by subst e;simp at iR
     split at aC
     ·rename_i vF;cases how:owner aA s with
      |none=>rw[how] at aC;simp only[aH] at aC;subst aC;refine hF.put_run hk hd (cZ _ _) fun Im h1 h2 hE=> ?_;have nC:=Dl hE hs (fun m x hm=>by rw[how] at hm;cases hm) hls;obtain⟨u,pD,bY⟩:=bO3 hu he _ (.int kk m) es kk m el nC (.i _ _) h0 iR vF;exact⟨u,by simp only[execOp,aO,heval,dX,bY w,dQ,eU],rfl,Im,fun _ h=>h,fun b h=>⟨.inl h,(h2 b h).2⟩,pD⟩
      |some m'=>
       rw[how] at aC;simp only at aC;split at aC;cases aC
       ·rename_i Au;cases aC;obtain⟨zQ,_,_,lO⟩:=hF.ents;cases s with
        |c v=>simp[owner] at how
        |t n=>
         have Dy:x= .tmp n:=by cases x with|tmp n'=>simp only[cS,aH,bF.t.injEq] at hs;subst hs;rfl|const c=>simp only[cS] at hs;cases hc:pR c<;>rw[hc] at hs<;>cases hs|func f=>simp[cS] at hs|global g=>simp only[cS] at hs;cases hc:yH g<;>rw[hc] at hs<;>cases hs
         subst Dy;have key:∃(y:V) (u:Value),aF m' aA=some y/\tm a m'=some u/\tm a n=some u/\frz y= .l es/\y.names=none/\y.smp=true:=by
          simp only[owner] at how;cases hx:aF n aA with
          |none=>rw[hx] at how;cases how
          |some y=>
           rw[hx] at how;simp only at how;have pW:iH aA n=some (.l es):=hls;unfold iH at pW;rw[hx] at pW;obtain⟨u,t6,gQ⟩:=lO.ent n y hx;cases y with
           |al q=>simp only[V.names,aH] at how;subst how;simp only at pW;cases hz:aF q aA with|none=>rw[hz] at pW;cases pW|some z=>rw[hz] at pW;obtain⟨h1,h2⟩:=IH (show BK z=some (.l es) from pW);obtain⟨z',gC,jZ⟩:=lO.closed n _ q hx rfl;rw[hz] at gC;cases gC;exact⟨z,u,rfl,gQ,t6,h2.symm,jZ,h1⟩
           |ow e' bW=>simp only[V.names,V.isOwn,jA,aH] at how;subst how;obtain⟨h1,h2⟩:=IH (show BK (V.ow e' bW)=some (.l es) from pW);exact⟨_,u,hx,t6,t6,h2.symm,rfl,h1⟩
           |bx cs=>simp[BK,frz] at pW
           |pe q i' off sz=>
            simp only at pW;cases hz:(aF q aA).bind BK with
            |none=>rw[hz] at pW;cases pW
            |some z=>
             rw[hz] at pW;cases z<;>first |(cases pW;done)|skip
             simp only[bL,gY] at pW;obtain⟨_,_,_,_,h⟩:=pW;cases h
           |pb q off sz=>
            simp only at pW;cases hz:(aF q aA).bind BK with
            |none=>rw[hz] at pW;cases pW
            |some z=>
             rw[hz] at pW;cases z<;>first |(cases pW;done)|skip
             simp only[gY] at pW;obtain⟨_,_,h⟩:=pW;cases h
           |mp ks vs=>simp[BK,frz] at pW|_=>simp[V.names,V.isOwn] at how
         obtain⟨y,u,hy,vD,t6,hfy,hyn,Aq⟩:=key;obtain⟨u',cP,hey⟩:=lO.ent m' y hy;have:=vD.symm.trans cP;cases this;rw[fT.res1 Aq] at hey;obtain⟨ad,c,k,vs,rfl,gD,hc,hr,dG⟩:=YZ hey hfy bM;have kD:k=P.cellsOf e:=by rw[<-vF];exact(gD el (k6 iR)).symm
         subst kD;refine⟨.pointer (some (ad.add (m.toNat*P.cellsOf e))),?_,?_⟩;simp only[execOp,aO,heval,eW t6,dX,eG9 hu he ad es.length c kk m h0 bE,dQ,eU];refine hF.put_names hk hd (m:=m') rfl Au hy hyn fun Im hE=> ?_;refine⟨ad,es.length,c,P.cellsOf e,vD,rfl,fun z bW hz AI=> ?_⟩;rw[hy] at hz;cases hz;rw[hfy] at AI;cases AI;exact gD
     cases aC
  cases aC
def dA5 (hF:FI P nt keep S aD w0 aA a w){d:Nat}(hk:d∈keep)(hd:d<nt){t:TypeId}{fs:Array Field}{i:Nat}{f:Field}{x:Operand}{s:bF}{oper:Oper}(aO:oper.op= .fieldAddr t x i)(hu:P.underlying t=some (.struct fs))(hf:fs[i]? =some f)(lE:0<P.cellsOf f.type)
  (hs:cS x=some s)(aC:bS o aA (.fa d f.offset (P.cellsOf f.type) s)=some aN):∃u,(execOp a.eval oper).run P w= .ok (.value u) w/\FI P nt keep S aD w0 aN (a.put (some d) u) w:=by
 cases s with
 |c v=>simp[bS] at aC
 |t n=>
  have Dy:x= .tmp n:=by cases x with|tmp n'=>simp only[cS,aH,bF.t.injEq] at hs;subst hs;rfl|const c=>simp only[cS] at hs;cases hc:pR c<;>rw[hc] at hs<;>cases hs|func f=>simp[cS] at hs|global g=>simp only[cS] at hs;cases hc:yH g<;>rw[hc] at hs<;>cases hs
  subst Dy;simp only[bS] at aC;obtain⟨zQ,_,_,lO⟩:=hF.ents;cases hx:aF n aA with
  |none=>rw[hx] at aC;cases aC
  |some y=>
   rw[hx] at aC;simp only[aZ] at aC;obtain⟨u,t6,gQ⟩:=lO.ent n y hx;have fin:∀(ad:Addr) (y':V) (m:Nat) (z:V),tm a n=some (.pointer (some ad))->y'.names=some m->m≠d->aF m aA=some z->z.names=none->aN=put' d y' aA->
     (∀Im:Nat->Prop,d8 P Im w aD aA (tm a)->fT P Im w aD aA (tm a) (.pointer (some (ad.add f.offset))) y')->∃u,(execOp a.eval oper).run P w= .ok (.value u) w/\FI P nt keep S aD w0 aN (a.put (some d) u) w:=by
    intro ad y' m z hn eS Au hz jZ he gQ;subst he;refine⟨_,?_,hF.put_names hk hd eS Au hz jZ gQ⟩;simp only[execOp,aO,eW hn,dX,eL9 hu hf lE ad,dQ,eU]
   cases y with
   |bx cs=>simp only at aC;split at aC;rename_i hc;cases aC;obtain⟨⟨g,vs,ty,rfl,_⟩,_⟩:=gQ;exact fin ⟨g,0,none⟩ _ n _ t6 rfl hc.1 hx rfl rfl fun Im hE=>⟨_,t6,rfl⟩;cases aC
   |al m=>
    simp only at aC;cases hz:aF m aA with
    |none=>rw[hz] at aC;cases aC
    |some z=>
     rw[hz] at aC;simp only[aZ] at aC;cases z<;>first |(cases aC;done)|skip
     rename_i cs;simp only at aC;split at aC;rename_i hc;cases aC;have hm:tm a m=some u:=gQ;obtain⟨u',cP,hez⟩:=lO.ent m _ hz;have:=hm.symm.trans cP;cases this;obtain⟨⟨g,vs,ty,rfl,_⟩,_⟩:=hez;exact fin ⟨g,0,none⟩ _ m _ t6 rfl hc.1 hz rfl rfl fun Im hE=>⟨_,hm,rfl⟩;cases aC
   |pe m i' a' sz=>simp only at aC;split at aC;rename_i hc;cases aC;obtain⟨ad,l,c,k,h1,rfl,h3⟩:=gQ;obtain⟨z,hz,jZ⟩:=lO.closed n _ m hx rfl;refine fin _ _ m z t6 rfl hc.1 hz jZ rfl fun Im hE=>⟨ad,l,c,k,h1,?_,h3⟩;rw[EQ,UC];cases aC
   |pb m a' sz=>simp only at aC;split at aC;rename_i hc;cases aC;obtain⟨ad,h1,rfl⟩:=gQ;obtain⟨z,hz,jZ⟩:=lO.closed n _ m hx rfl;refine fin _ _ m z t6 rfl hc.1 hz jZ rfl fun Im hE=>⟨ad,h1,?_⟩;rw[EQ];cases aC
   |r cs=>simp only at aC;cases nO:sub cs f.offset (P.cellsOf f.type) with|none=>rw[nO] at aC;cases aC|some r=>rw[nO] at aC;cases aC;refine hF.put_run hk hd (cZ _ _) fun Im h1 h2 hE=> ?_;obtain⟨u',cP,he⟩:=hE.ent n _ hx;obtain⟨v,hv,bY⟩:=bU2 hu hf lE u' cs r he nO;exact⟨v,by simp only[execOp,aO,eW cP,dX,bY w,dQ,eU],rfl,Im,fun _ h=>h,fun b h=>⟨.inl h,(h2 b h).2⟩,hv⟩
   |_=>cases aC
def dA1 (hF:FI P nt keep S aD w0 aA a w){d:Nat}(hk:d∈keep)(hd:d<nt){fn:Fn}{fs cs:Array Operand}{ss:List bF}{oper:Oper}(aO:oper.op= .makeFunc fn fs cs)
  (hs:srcs (fs.toList++cs.toList)=some ss)(aC:bS o aA (.mkf d fn fs.size ss)=some aN):∃u,(execOp a.eval oper).run P w= .ok (.value u) w/\FI P nt keep S aD w0 aN (a.put (some d) u) w:=by
 simp only[bS] at aC;cases hl:eC aA ss with
 |none=>rw[hl] at aC;cases aC
 |some vs=>
  rw[hl] at aC;cases aC;refine(hF.freeze ss).put_run hk hd (cZ _ _) fun Im h1 h2 hE=> ?_;have hr:=Ga hE hs (IN ss aA).2 (by rw[Jz];exact hl);rw[HZ] at hr;have fC:(fs.toList.map a.eval).length=fs.size:=by simp
  have r1:=hr.take fs.size;have r2:=hr.drop fs.size;rw[List.take_left' fC] at r1;rw[List.drop_left' fC] at r2;refine⟨.func fn (fs.map a.eval) (cs.map a.eval),by simp[execOp,aO,Instr.makeFunc],rfl,Im,fun _ h=>h,fun b h=>⟨.inl h,(h2 b h).2⟩,?_⟩;refine .f fn _ _ _ _ (by simpa using r1.1) (by simpa using r2.1) (fun j u x hu hx=>r1.2 j u x ?_ hx) (fun j u x hu hx=>r2.2 j u x ?_ hx);rw[<-vQ,Tf] at hu;exact hu;rw[<-vQ,Tf] at hu;exact hu
end
end Go.VM
namespace Go.VM
open Go.RowKit
variable [cB]
section
variable {P:Program} {nt:Nat} {keep:List Nat} {S:Nat->Prop} {aD:Nat} {w0:World} {aA aN:aG} {a:Act} {w:World} {o:aU}
def dA9 (hF:FI P nt keep S aD w0 aA a w){d:Nat}(hk:d∈keep)(hd:d<nt){t e:TypeId}{k n:Nat}{ps:Array (Nat×Operand)}{ss:List bF}{oper:Oper}(aO:oper.op= .buildSlice t n ps)
  (uC:AS P t=some k)(iR:CG P t=some e)(hc:n*k<=16777216/\0<k/\ps.toList.map (·.1)=List.range n/\(sK P (P.elem t)).isSome=true)(hs:srcs (ps.toList.map (·.2))=some ss)
  (aC:bS o aA (.bsl d e k ss)=some aN):∃u w1,(execOp a.eval oper).run P w= .ok (.value u) w1/\FI P nt keep S aD w0 aN (a.put (some d) u) w1:=by
 simp only[bS] at aC;cases hl:eC aA ss with
 |none=>rw[hl] at aC;cases aC
 |some vs=>
  rw[hl] at aC;simp only[aZ] at aC;split at aC;rename_i eG;cases aC;have yG:∀x∈vs,x.cells.length=k:=fun x hx=>by have:=eM.1 eG x hx;simp only[fA,pM] at this;exact this.1
  have PA:∀x∈cL vs,x.cell=true:=fun x hx=>by obtain⟨e,he,hx⟩:=sM.1 hx;have:=eM.1 eG e he;simp only[fA,pM] at this;exact eM.1 this.2 x hx
  have hu:P.underlying t=some (.slice e):=by unfold CG at iR;split at iR;rename_i e' hu;cases iR;exact hu;cases iR
  have gD:(P.info? e).map (·.size)=some k:=by simpa[AS,hu] using uC
  have uB:P.cellsOf e=k:=by unfold Program.cellsOf;cases h:P.info? e with|none=>rw[h] at gD;cases gD|some i=>rw[h] at gD;simpa using gD
  have MO:P.elem t=e:=by simp[Program.elem,hu]
  rw[MO] at hc;have dI:=hF.freeze ss;obtain⟨zQ,_,_,lO⟩:=dI.ents;have hr0:=Ga lO hs (IN ss aA).2 (by rw[Jz];exact hl);obtain⟨cells,hcr0,cK,hn,bY⟩:=aO4 (w:=w) hu gD hc.1 hc.2.2.2 ps hc.2.2.1 a.eval vs (by simpa[DX,LC] using hr0) yG;have hx:(execOp a.eval oper).run P w= .ok (.value (.slice (some ⟨w.heap.size,0,none⟩) n n)) (w.alloc (.cells cells.toArray e)):=by have:=bY w;simp only[execOp,aO,dX,this,dQ,eU]
  have A':Below w.heap.size w (w.alloc (.cells cells.toArray e)):=(cZ _ _).alloc (dD _) _;refine⟨_,_,hx,dI.put_own hk hd A' rfl (fun g hg=>by simp only[dR,aH] at hg;omega) fun Im h1 h2 hE=> ?_⟩;have hr:=Ga hE hs (IN ss aA).2 (by rw[Jz];exact hl);obtain⟨tG,hcr,_,_,RY⟩:=aO4 (w:=w) hu gD hc.1 hc.2.2.2 ps hc.2.2.1 a.eval vs (by simpa[DX,LC] using hr) yG;have he:=(bY w).symm.trans (RY w);have hce:cells=tG:=by simp only[Result.ok.injEq] at he;have h1:=LM w (.cells cells.toArray e);rw[he.2] at h1;have h2:=LM w (.cells tG.toArray e);rw[h2] at h1;simp only[aH,Obj.cells.injEq,jJ] at h1;simpa using h1.symm
  subst hce;refine⟨Im,fun _ h=>h,fun b h=>⟨.inl h,vU (h2 b h).2 A'.size⟩,⟨cells,?_,fun x hx=>(yG x hx).trans uB.symm,PA,hcr.move (fun _ h=>h) fun p hp=>Xb w _ p (h2 _ hp).2⟩,fun g hg hI=> ?_⟩;rw[hn];have hmul:n<=n*k:=Xa n hc.2.1;have:=World.ownsRow_lit (base:=aD) (e:=e) (size:=P.cellsOf e) w cells.toArray n hF.bsz (by simp only[maxLen];omega) (by simp[cK,uB]);simpa using this;simp only[dR,aH] at hg;have:=(h2 g hI).2;omega;cases aC
def cC8 {Im:Nat->Prop}(gF:∀b,Im b->b<w.heap.size)(hbs:aD<=w.heap.size){vs:List Value}{cs:List V}(hr:aX Im w vs cs)(hc:∀x∈cs,x.cell=true)(ty:TypeId):fL P Im (w.alloc (.cells vs.toArray ty)) aD (.pointer (some ⟨w.heap.size,0,none⟩)) (.bx cs):=by refine⟨⟨w.heap.size,vs,ty,rfl,hbs,LM w _,hc,hr.move (fun _ h=>h) fun p hp=>Xb w _ p (gF _ hp)⟩,fun g hg hI=> ?_⟩;simp only[dR,aH] at hg;have:=gF g hI;omega
def dB0 (hF:FI P nt keep S aD w0 aA a w){d:Nat}(hk:d∈keep)(hd:d<nt){t:TypeId}{x:Operand}{s:bF}{oper:Oper}(aO:oper.op= .box t x)(hs:cS x=some s)
  (aC:bS o aA (.box d s)=some aN):∃u w1,(execOp a.eval oper).run P w= .ok (.value u) w1/\FI P nt keep S aD w0 aN (a.put (some d) u) w1:=by
 simp only[bS] at aC;cases hl:dK aA s with
 |none=>rw[hl] at aC;cases aC
 |some v=>
  rw[hl] at aC;simp only[aZ] at aC;split at aC;rename_i eG;cases aC;have dI:=hF.freeze [s];have A':Below w.heap.size w (w.alloc (.cells (a.eval x).cells t)):=(cZ _ _).alloc (dD _) _;refine⟨_,_,(by simp[execOp,aO,Instr.box,newVar,VA]:(execOp a.eval oper).run P w= .ok (.value (.pointer (some ⟨w.heap.size,0,none⟩))) (w.alloc (.cells (a.eval x).cells t))),dI.put_own hk hd A' rfl (fun g hg=>by simp only[dR,aH] at hg;omega) fun Im h1 h2 hE=> ?_⟩;have zG:dK (freeze aA [s]) s=some v:=by have h:=Jz [s] aA [s];simp only[eC,hl,aZ] at h;cases h':dK (freeze aA [s]) s with|none=>rw[h'] at h;cases h|some v'=>rw[h'] at h;simp only[aZ,aH,gG,jJ] at h;rw[h]
  have hr:=Dl hE hs ((IN [s] aA).2 s (dC ..)) zG;have:=cC8 (P:=P) (aD:=aD) (fun b h=>(h2 b h).2) hF.bsz hr.cells (fun x hx=>eM.1 eG x hx) t;exact⟨Im,fun _ h=>h,fun b h=>⟨.inl h,vU (h2 b h).2 A'.size⟩,by simpa using this⟩;cases aC
def dB3 (hF:FI P nt keep S aD w0 aA a w){d:Nat}(hk:d∈keep)(hd:d<nt){t:TypeId}{z:List V}{oper:Oper}(aO:oper.op= .alloc t)(hz:sK P t=some z)
  (aC:bS o aA (.alo d z)=some aN):∃u w1,(execOp a.eval oper).run P w= .ok (.value u) w1/\FI P nt keep S aD w0 aN (a.put (some d) u) w1:=by
 simp only[bS,aH] at aC;subst aC;unfold sK at hz;cases hi:P.info? t with
 |none=>rw[hi] at hz;cases hz
 |some it=>
  rw[hi] at hz;simp only[aZ] at hz;cases rZ:it.zero with
  |none=>rw[rZ] at hz;cases hz
  |some zv=>
   rw[rZ] at hz;simp only[aZ] at hz;have A':Below w.heap.size w (w.alloc (.cells zv.cells t)):=(cZ _ _).alloc (dD _) _;have Bo:(zeroValue t).run P w= .ok zv w:=by simp[zeroValue,typeInfo,hi,rZ]
   refine⟨_,_,(by simp[execOp,aO,Instr.alloc,Bo,newVar,VA]:(execOp a.eval oper).run P w= .ok (.value (.pointer (some ⟨w.heap.size,0,none⟩))) (w.alloc (.cells zv.cells t))),hF.put_own hk hd A' rfl (fun g hg=>by simp only[dR,aH] at hg;omega) fun Im h1 h2 hE=> ?_⟩;obtain⟨r1,c1⟩:=Oc (S:=Im) (w:=w) hz;have:=cC8 (P:=P) (aD:=aD) (fun b h=>(h2 b h).2) hF.bsz r1 c1 t;exact⟨Im,fun _ h=>h,fun b h=>⟨.inl h,vU (h2 b h).2 A'.size⟩,by simpa using this⟩
def fL.keepW {Im:Nat->Prop}{w':World}{v:Value}{x:V}(h:fL P Im w aD v x)(hI:∀b,Im b->w'.heap[b]? =w.heap[b]?)(hN:x.isOwn=true->∀g,dR v=some g->w'.heap[g]? =w.heap[g]?):fL P Im w' aD v x:=by
 cases x with
 |ow e es=>obtain⟨⟨vs,⟨hl,hv⟩,hk,h1,hr⟩,hn⟩:=h;refine⟨⟨vs,⟨hl,?_⟩,hk,h1,hr.move (fun _ h=>h) fun p hp=>CN (hI _ hp)⟩,hn⟩;rcases hv with h|⟨g,cap,cur,rfl,h2,hh,h3⟩;exact .inl h;exact .inr ⟨g,cap,cur,rfl,h2,(hN rfl g rfl).trans hh,h3⟩
 |bx cs=>obtain⟨⟨g,vs,ty,rfl,h2,hh,h3,hr⟩,hn⟩:=h;exact⟨⟨g,vs,ty,rfl,h2,(hN rfl g rfl).trans hh,h3,hr.move (fun _ h=>h) fun p hp=>CN (hI _ hp)⟩,hn⟩
 |mp ks vs=>obtain⟨⟨g,es,c,rfl,h2,hh,h3⟩,hn⟩:=h;exact⟨⟨g,es,c,rfl,h2,(hN rfl g rfl).trans hh,h3⟩,hn⟩
 |al n=>exact h|pe a b c d=>exact h|pb a b c=>exact h|t ys=>exact h|ud=>exact h|_=>exact aP.keep h fun p hp=>CN (hI _ hp)
def d8.upd {Im:Nat->Prop}{T:Tm}{w':World}(h:d8 P Im w aD aA T){n:Nat}{x x':V}{u:Value}(hx:aF n aA=some x)(hu:T n=some u)(kC:x'.names=none)
  (hI:∀b,Im b->w'.heap[b]? =w.heap[b]?)(hO:∀m c g,m≠n->cO aA T m c g->w'.heap[g]? =w.heap[g]?)
  (hpe:∀bW,frz x'= .l bW->∃es,frz x= .l es/\∀k,(∀e∈es,e.cells.length=k)->∀e∈bW,e.cells.length=k)
  (gQ:fT P Im w' aD (VM.put n x' aA) T u x')(cA:∀c g,cO (VM.put n x' aA) T n c g->cO aA T n c g):d8 P Im w' aD (VM.put n x' aA) T:=by
 have fQ:∀m,aF m (VM.put n x' aA)=if m=n then some x' else aF m aA:=fun m=>kZ n m x' aA;have Gu:∀m c g,cO (VM.put n x' aA) T m c g->cO aA T m c g:=by
  intro m c g ho;by_cases hm:m=n;subst hm;exact cA c g ho;cases c with
  |none=>obtain⟨y,v,hy,h1⟩:=ho;rw[fQ,aK hm] at hy;exact⟨y,v,hy,h1⟩
  |some j=>obtain⟨ys,us,y,v,hy,h1⟩:=ho;rw[fQ,aK hm] at hy;exact⟨ys,us,y,v,hy,h1⟩
 refine⟨fun m y hy=> ?_,fun m y k hy hk=> ?_,fun m c m' c' g h1 h2=>h.apart m c m' c' g (Gu _ _ _ h1) (Gu _ _ _ h2),h.glob.move (fun _ h=>h) fun p hp=>CN (hI _ hp)⟩;rw[fQ] at hy;by_cases hm:m=n;rw[aY hm] at hy;cases hy;exact⟨u,by rw[hm];exact hu,gQ⟩;rw[aK hm] at hy;obtain⟨v,hv,he⟩:=h.ent m y hy;refine⟨v,hv,?_⟩;by_cases kM:y.smp=true;rw[fT.res1 kM] at he⊢;exact he.keepW hI fun ho g hg=>hO m none g hm ⟨_,v,hy,ho,hv,hg⟩;cases y with
 |pe k i off sz=>obtain⟨ad,l,c,kk,h1,h2,h3⟩:=he;refine⟨ad,l,c,kk,h1,h2,fun z es hz AI=> ?_⟩;rw[fQ] at hz;by_cases mS:k=n;rw[aY mS] at hz;cases hz;obtain⟨es0,hf0,eG⟩:=hpe es AI;exact eG kk (h3 x es0 (by rw[mS];exact hx) hf0);rw[aK mS] at hz;exact h3 z es hz AI
 |al k=>exact he|pb k off sz=>exact he|ud=>exact he|t ys=>obtain⟨us,iD,hl,hh⟩:=he;refine⟨us,iD,hl,fun j v' y hj eS=> ?_⟩;rcases hh j v' y hj eS with h1|h1;exact .inl h1;exact .inr (h1.keepW hI fun ho g hg=>hO m (some j) g hm ⟨ys,us,y,v',hy,by rw[hv,iD],eS,ho,hj,hg⟩)
 |_=>exact absurd rfl kM
 rw[fQ] at hy;by_cases hm:m=n;rw[aY hm] at hy;cases hy;rw[kC] at hk;cases hk;rw[aK hm] at hy;obtain⟨z,hz,jZ⟩:=h.closed m y k hy hk;by_cases mS:k=n;exact⟨x',by rw[fQ,aY mS],kC⟩;exact⟨z,by rw[fQ,aK mS];exact hz,jZ⟩
def dA6 (hF:FI P nt keep S aD w0 aA a w){d:Nat}(hk:d∈keep)(hd:d<nt){n i:Nat}{oper:Oper}(aO:oper.op= .extract (.tmp n) i)
  (aC:bS o aA (.ext d i n)=some aN):∃u,(execOp a.eval oper).run P w= .ok (.value u) w/\FI P nt keep S aD w0 aN (a.put (some d) u) w:=by
 simp only[bS] at aC;cases hx:aF n aA with
 |none=>rw[hx] at aC;cases aC
 |some x=>
  rw[hx] at aC;simp only[aZ] at aC;cases x<;>first |(cases aC;done)|skip
  rename_i ys;simp only at aC;cases hy:ys[i]? with
  |none=>rw[hy] at aC;cases aC
  |some y=>
   rw[hy] at aC;simp only[aZ] at aC;by_cases cA:y.isOwn=true
   case neg=>
    rw[aK cA] at aC;simp only[aH] at aC;subst aC;have hF0:=hF;obtain⟨Im,cE,bK,hE⟩:=hF.ents;obtain⟨u0,AE,us,rfl,wN,iD⟩:=hE.ent n _ hx;have hi:i<us.length:=by rw[wN];exact(fE.1 hy).1
    have Ce:us[i]? =some us[i]:=eI hi;refine⟨us[i],?_,?_⟩;simp only[execOp,aO,eW AE,Instr.extract];simp[hi]
    ·rcases iD i _ _ Ce hy with rfl|h;exact hF0.put_ud hk hd
     ·have kM:y.smp=true:=by cases y<;>first |exact h.elim|rfl
      refine hF0.put_rep hk hd (cZ _ _) kM (by simpa using cA) fun Im' _ hI2' AO=>⟨Im',fun _ h=>h,fun b h=>⟨.inl h,(hI2' b h).2⟩,?_⟩;obtain⟨u1,hu1,us',hus',hul',hh⟩:=AO.ent n _ hx;have h1:=AE.symm.trans hu1;simp only[aH] at h1;rw[<-h1] at hus';simp only[Value.tuple.injEq] at hus';have h2:us=us':=by simpa using jV Array.toList hus'
      subst h2;rcases hh i _ _ Ce hy with rfl|h3;exact h.elim
      ·cases y<;>first |exact h3|(exact h.elim)|(simp[V.isOwn] at cA;done)
   rw[aY cA] at aC;simp only[aH] at aC;subst aC;obtain⟨Im,cE,bK,hE⟩:=hF.ents;obtain⟨u0,AE,us,rfl,wN,iD⟩:=hE.ent n _ hx;have lN:d<a.tmps.size:=by rw[hF.size];exact hd
   have hi:i<us.length:=by rw[wN];exact(fE.1 hy).1
   have Ce:us[i]? =some us[i]:=eI hi;have hiy:i<ys.length:=(fE.1 hy).1;have Ov:∀j,(ys.set i .ud)[j]? =if j=i then some V.ud else ys[j]? :=fun j=>by rw[X5];by_cases h:i=j;subst h;simp[hiy];rw[aK h,aK (fun e=>h e.symm)]
   have bQ8:∀c g,cO (put n (.t (ys.set i .ud)) aA) (tm a) n c g->∃j,c=some j/\j≠i/\cO aA (tm a) n (some j) g:=by
    intro c g ho;cases c with
    |none=>obtain⟨z,_,hz,h1,_⟩:=ho;rw[kZ,aY rfl] at hz;cases hz;simp[V.isOwn] at h1
    |some j=>obtain⟨ys',us',z,v,hz,h1,h2,h3,h4⟩:=ho;rw[kZ,aY rfl] at hz;cases hz;rw[Ov] at h2;by_cases hj:j=i;rw[aY hj] at h2;cases h2;simp[V.isOwn] at h3;rw[aK hj] at h2;exact⟨j,rfl,hj,ys,us',z,v,hx,h1,h2,h3,h4⟩
   have AN:d8 P Im w aD (put n (.t (ys.set i .ud)) aA) (tm a):=by
    refine hE.upd (x':= .t (ys.set i .ud)) hx AE rfl (fun _ _=>rfl) (fun _ _ _ _ _=>rfl) (fun bW h=>by simp[frz] at h) ⟨us,rfl,by simpa using wN,fun j v z hv hz=> ?_⟩ (fun c g ho=>by
     obtain⟨j,rfl,_,h⟩:=bQ8 c g ho;exact h)
    rw[Ov] at hz;by_cases hj:j=i;rw[aY hj] at hz;cases hz;exact .inl rfl;rw[aK hj] at hz;exact iD j v z hv hz
   have fM:cH (put n (.t (ys.set i .ud)) aA):=hF.srt.put _ _;have hyk:y.names=none/\(∀zs,y≠ .t zs)/\(y= .ud\/(y.smp=true/\fL P Im w aD us[i] y)):=by rcases iD i _ _ Ce hy with rfl|h;exact⟨rfl,by simp,.inl rfl⟩;cases y<;>first |exact h.elim|exact⟨rfl,by simp,.inr ⟨rfl,h⟩⟩
   have MH:∀c g,cO (put' d y (put n (.t (ys.set i .ud)) aA)) (tm (a.put (some d) us[i])) d c g->c=none/\cO aA (tm a) n (some i) g:=by
    intro c g ho;cases c with
    |none=>obtain⟨z,v,hz,h1,hT,hg⟩:=ho;rw[gJ fM,aY rfl] at hz;cases hz;rw[jF lN,aY rfl] at hT;cases hT;exact⟨rfl,ys,us,y,us[i],hx,AE,hy,h1,Ce,hg⟩
    |some j=>obtain⟨zs,_,_,_,hz,_⟩:=ho;rw[gJ fM,aY rfl] at hz;cases hz;exact absurd rfl (hyk.2.1 zs)
   have Cr:d8 P Im w aD (put' d y (put n (.t (ys.set i .ud)) aA)) (tm (a.put (some d) us[i])):=by
    refine AN.put fM d y us[i] ((jF lN d).trans (aY rfl)) (fun m z hm _=>(jF lN m).trans (aK hm)) ?_ (fun m hm=>by rw[hyk.1] at hm;cases hm) (fun c g ho n' c' kC oC=> ?_) (fun c c' g h h'=>(MH c g h).1.trans (MH c' g h').1.symm);rcases hyk.2.2 with rfl|⟨h1,h2⟩;trivial;rw[fT.res1 h1];exact h2;have h1:=(MH c g ho).2;by_cases tA:n'=n;subst tA;obtain⟨j,rfl,hj,h2⟩:=bQ8 c' g oC;exact hj (by have:=(hE.apart _ _ _ _ _ h2 h1).2;simpa using this);have h2:cO aA (tm a) n' c' g:=by
     cases c' with
     |none=>obtain⟨z,v,hz,h⟩:=oC;rw[kZ,aK tA] at hz;exact⟨z,v,hz,h⟩
     |some j=>obtain⟨zs,vs,z,v,hz,h⟩:=oC;rw[kZ,aK tA] at hz;exact⟨zs,vs,z,v,hz,h⟩
    exact tA (hE.apart _ _ _ _ _ h2 h1).1
   refine⟨us[i],?_,fM.put' _ _,by simpa[Act.put] using hF.size,hF.defers,hF.below,hF.kept,hF.bsz,fun m z hz=> ?_,Im,cE,bK,Cr⟩;simp only[execOp,aO,eW AE,Instr.extract];simp[hi];by_cases hm:m=d;rw[hm];exact⟨hk,hd⟩;rw[gJ fM,aK hm] at hz;have gC:∃z',aF m (put n (.t (ys.set i .ud)) aA)=some z':=by cases hq:aF d (put n (.t (ys.set i .ud)) aA) with|none=>rw[hq] at hz;exact⟨_,hz⟩|some q=>rw[hq] at hz;simp only at hz;cases dE:aF m (put n (.t (ys.set i .ud)) aA) with|none=>rw[dE] at hz;cases hz|some z'=>exact⟨z',rfl⟩
   obtain⟨z',gC⟩:=gC;rw[kZ] at gC;by_cases hmn:m=n;rw[hmn];exact hF.keys n _ hx;rw[aK hmn] at gC;exact hF.keys m z' gC
def d8.spent {Im:Nat->Prop}{aA:aG}{T:Tm}(h:d8 P Im w aD aA T){m:Nat}{x:V}(hx:aF m aA=some x):d8 P Im w aD (VM.put m .ud aA) T/\∀n c g,cO (VM.put m .ud aA) T n c g->n≠m/\cO aA T n c g:=by
 obtain⟨u,hu,_⟩:=h.ent m x hx;have key:∀n c g,cO (VM.put m .ud aA) T n c g->n≠m/\cO aA T n c g:=by
  intro n c g ho;cases c with
  |none=>obtain⟨y,v,hy,h1,h2⟩:=ho;rw[kZ] at hy;by_cases hn:n=m;rw[aY hn] at hy;cases hy;simp[V.isOwn] at h1;rw[aK hn] at hy;exact⟨hn,y,v,hy,h1,h2⟩
  |some j=>obtain⟨ys,us,y,v,hy,h1⟩:=ho;rw[kZ] at hy;by_cases hn:n=m;rw[aY hn] at hy;cases hy;rw[aK hn] at hy;exact⟨hn,ys,us,y,v,hy,h1⟩
 exact⟨h.upd (x':= .ud) hx hu rfl (fun _ _=>rfl) (fun _ _ _ _ _=>rfl) (fun bW h=>by simp[frz] at h) trivial fun c g ho=>absurd rfl (key m c g ho).1,key⟩
def cZ6 (hF:FI P nt keep S aD w0 aA a w){d:Nat}(hk:d∈keep)(hd:d<nt){ty:TypeId}{x:Operand}{s:bF}(hs:m9 P ty x=some s)(aC:bS o aA (.mv d s)=some aN):FI P nt keep S aD w0 aN (a.put (some d) (a.eval x)) w:=by
 by_cases lA:∃n ys,s= .t n/\aF n aA=some (.t ys);obtain⟨n,ys,rfl,hx⟩:=lA;have FL:x= .tmp n:=by cases x with|tmp n'=>simp only[m9,aH,bF.t.injEq] at hs;subst hs;rfl|const c=>simp only[m9] at hs;cases hc:Fk P ty c<;>rw[hc] at hs<;>cases hs|func f=>simp[m9] at hs|global g=>simp[m9] at hs
 subst FL;simp only[bS,hx,aZ] at aC;split at aC;cases aC;rename_i hdn;cases aC;obtain⟨Im,cE,bK,hE⟩:=hF.ents;obtain⟨u,hu,us,rfl,wN,iD⟩:=hE.ent n _ hx;have lN:d<a.tmps.size:=by rw[hF.size];exact hd
 obtain⟨AN,ho1⟩:=hE.spent hx;have fM:cH (put n .ud aA):=hF.srt.put _ _;rw[eW hu];have MH:∀c g,cO (put' d (.t ys) (put n .ud aA)) (tm (a.put (some d) (.tuple us.toArray))) d c g->cO aA (tm a) n c g:=by
  intro c g ho;cases c with
  |none=>obtain⟨z,v,hz,h1,_⟩:=ho;rw[gJ fM,aY rfl] at hz;cases hz;simp[V.isOwn] at h1
  |some j=>
   obtain⟨zs,vs,z,v,hz,hT,h1,h2,h3,h4⟩:=ho;rw[gJ fM,aY rfl] at hz;cases hz;rw[jF lN,aY rfl] at hT;have:us=vs:=by simpa using hT
   subst this;exact⟨ys,us,z,v,hx,hu,h1,h2,h3,h4⟩
 refine⟨fM.put' _ _,by simpa[Act.put] using hF.size,hF.defers,hF.below,hF.kept,hF.bsz,fun m z hz=> ?_,Im,cE,bK,?_⟩;by_cases hm:m=d;rw[hm];exact⟨hk,hd⟩;rw[gJ fM,aK hm] at hz;have gC:∃z',aF m (put n .ud aA)=some z':=by cases hq:aF d (put n .ud aA) with|none=>rw[hq] at hz;exact⟨_,hz⟩|some q=>rw[hq] at hz;simp only at hz;cases dE:aF m (put n .ud aA) with|none=>rw[dE] at hz;cases hz|some z'=>exact⟨z',rfl⟩
 obtain⟨z',gC⟩:=gC;rw[kZ] at gC;by_cases hmn:m=n;rw[hmn];exact hF.keys n _ hx;rw[aK hmn] at gC;exact hF.keys m z' gC;refine AN.put fM d _ (.tuple us.toArray) ((jF lN d).trans (aY rfl)) (fun m z hm _=>(jF lN m).trans (aK hm)) ⟨us,rfl,wN,iD⟩ (fun m hm=>by cases hm) (fun c g ho n' c' kC oC=> ?_) (fun c c' g h h'=>(hE.apart _ _ _ _ _ (MH c g h) (MH c' g h')).2);have h1:=MH c g ho;have h2:=ho1 n' c' g oC;exact h2.1 (hE.apart _ _ _ _ _ h2.2 h1).1;exact cZ7 hF hk hd hs (fun n ys e1 e2=>lA ⟨n,ys,e1,e2⟩) aC
end
end Go.VM
