/-
  What a reading of an argument says of plain data. No program is named here.
-/
import Derived.Test.YtdlpbedneamebaaGreatDoorVmK
import Derived.ProofKit
import Derived.Carry
import Derived.WideKeyArgs
set_option linter.unusedSectionVars false
namespace Go.VM
open Go.RowKit
variable [Glob]

def Fit (P : Program) : Nat → TypeId → List V → Prop
  | 0, _, _ => True
  | n + 1, t, xs => match P.underlying t with
    | some .bool => ∃ b, xs = [.b b]
    | some (.int k) => ∃ m, xs = [.i k m] ∧ (Lit.int k m).wf = true
    | some .string => ∃ s, xs = [.s s] ∧ s.length ≤ maxLen
    | some (.slice e) => ∃ es : List V, xs = [.l es] ∧ es.length ≤ maxLen ∧ ∀ y ∈ es, ∃ ys, Fit P n e ys ∧ y = (if isAggB P e then .a ys else ys.headD .ud)
    | some (.struct fs) => fs.toList.foldr (fun f K xs => ∃ a b, xs = a ++ b ∧ Fit P n f.type a ∧ K b) (fun xs => xs = []) xs
    | _ => False

def contig (P : Program) : Nat → List Field → Option Nat
  | off, [] => some off
  | off, f :: r => if f.offset = off then contig P (off + P.cellsOf f.type) r else none

theorem mapM_get {α β : Type} {f : α → Option β} : ∀ {l : List α} {r : List β}, l.mapM f = some r → r.length = l.length ∧ ∀ (i : Nat) x, l[i]? = some x → f x = r[i]?
  | [], r, h => by simp at h; subst h; simp
  | x :: l, r, h => by
    rw [List.mapM_cons] at h
    simp only [bind, Option.bind_eq_some_iff, pure, Option.some.injEq] at h
    obtain ⟨y, hy, ys, hys, rfl⟩ := h
    obtain ⟨h1, h2⟩ := mapM_get hys
    refine ⟨by simp [h1], fun i z hz => ?_⟩
    cases i with
    | zero => simp at hz; subst hz; simpa using hy
    | succ i => simpa using h2 i z (by simpa using hz)

section
variable {H : Type} {enc : TypeId × Value → H} {P : Program} {w : World} {spare : Nat → Bool} {held : Bool}

theorem cells_get {a : Addr} {n : Nat} {cs : List Value} (h : w.cells? 0 a n = some cs) : cs.length = n ∧ ∀ (j : Nat) u, cs[j]? = some u → w.cell? (a.add j) = some u := by
  unfold World.cells? at h
  split at h
  · obtain ⟨h1, h2⟩ := mapM_get h
    refine ⟨by simpa using h1, fun j u hj => ?_⟩
    have hlt : j < n := by have := (List.getElem?_eq_some_iff.1 hj).1; rw [h1] at this; simpa using this
    exact (h2 j j (by simp [hlt])).trans hj
  · cases h


theorem row_build {a : Addr} {k : Nat} {G : V → List V → Prop} : ∀ (len : Nat), (∀ i, i < len → ∃ (cs : List Value) (ys : List V) (y : V), w.cells? 0 (a.add (i * k)) k = some cs ∧ Reps (All w) w cs ys ∧ (∀ x ∈ ys, x.cell = true) ∧ y.cells = ys ∧ G y ys) →
    ∃ (vs : List Value) (es : List V), es.length = len ∧ Reps (All w) w vs (flatc es) ∧ (∀ x ∈ flatc es, x.cell = true) ∧ (∀ e ∈ es, e.cells.length = k ∧ G e e.cells) ∧ vs.length = len * k ∧ ∀ (j : Nat) u, vs[j]? = some u → w.cell? (a.add j) = some u
  | 0, _ => ⟨[], [], rfl, Reps.nil, by simp [flatc], by simp, by simp, by simp⟩
  | len + 1, h => by
    obtain ⟨vs, es, h1, h2, h3, h4, h5, h6⟩ := row_build len fun i hi => h i (by omega)
    obtain ⟨cs, ys, y, g1, g2, g3, g4, g5⟩ := h len (by omega)
    obtain ⟨g6, g7⟩ := cells_get g1
    subst g4
    refine ⟨vs ++ cs, es ++ [y], by simp [h1], ?_, fun x hx => ?_, fun e he => ?_, by rw [List.length_append, h5, g6, Nat.succ_mul], fun j u hj => ?_⟩
    · rw [flatc_append]
      exact h2.append (by simpa [flatc] using g2)
    · rw [flatc_append] at hx
      rcases List.mem_append.1 hx with hx | hx
      · exact h3 x hx
      · exact g3 x (by simpa [flatc] using hx)
    · rcases List.mem_append.1 he with he | he
      · exact h4 e he
      · simp only [List.mem_singleton] at he
        subst he
        exact ⟨by rw [← g2.1, g6], g5⟩
    · rw [List.getElem?_append] at hj
      split at hj
      · exact h6 j u hj
      · have := g7 _ u hj
        rw [add_add] at this
        rwa [show len * k + (j - vs.length) = j from by rw [← h5]; omega] at this

end
end Go.VM
/-
  A law that returns true: from plain data to the statement's own terms. No program is named here.
-/
namespace Go.VM
open Go.RowKit Go.ChangeShapes Go.WideShapes
variable [Glob]

section
variable {H : Type} {enc : TypeId × Value → H} {P : Program}

def packT (P : Program) (t : TypeId) (ys : List V) : V := if isAggB P t then .a ys else ys.headD .ud

theorem okWide_one {w : World} {r : Reach} {b : Nat} {t : TypeId} {v : Value} (h : Value.okWide P w r b t v) (hn : isAggB P t = false) : v.cells = #[v] := by
  have hc : Cell.okWide P w r b t v := by
    unfold Value.okWide at h
    unfold isAggB at hn
    split at h <;> simp_all
  cases v with
  | agg cs =>
    exfalso
    unfold Cell.okWide at hc
    split at hc <;> simp_all [Cell.ok]
  | _ => rfl



theorem trodAll_stays {W W' : World} {sp : Nat → Bool} (hl : laidOutB P = true) (hb : Below W.heap.size W W') (hsp : ∀ b, b < W.heap.size → sp b = true) : ∀ {ts : List TypeId} {vs : List Value} {ds : List (DataW H)} {ps : List MemPlace}, (∀ t ∈ ts, P.readableRec t = true ∧ t < P.types.size) → (∀ p ∈ ps, p.block < W.heap.size) →
    DataW.TrodAll enc P W 0 (fun _ => true) true ts vs ds ps → DataW.TrodAll enc P W' 0 sp true ts vs ds ps
  | [], vs, ds, ps, _, _, h => by
    obtain ⟨rfl, rfl, rfl⟩ := trodAll_nil h
    exact rfl
  | t :: ts, vs, ds, ps, hp, hlt, h => by
    obtain ⟨v, vs', d, ds', a, c, rfl, rfl, rfl, h1, h2⟩ := trodAll_cons h
    obtain ⟨hr, hrow⟩ := hp t (List.mem_cons_self ..)
    refine ⟨a, c, WideElems.Trod_stays hl hr hrow h1 (fun x hx => hb.same (hlt x (List.mem_append_left _ hx))) (fun x hx => hsp _ (hlt x (List.mem_append_left _ hx))), ?_, rfl⟩
    exact trodAll_stays hl hb hsp (fun t ht => hp t (List.mem_cons_of_mem _ ht)) (fun p hp => hlt p (List.mem_append_right _ hp)) h2

theorem post_true {f : Func} {s : ChangeSpec} {fresh handsOn again : Bool} {W W' : World} {args : Array Value} {ds gs : List (DataW H)} {before : List MemPlace} (hW : DataW.Whole enc P f.params.toList s.vars false W args.toList ds gs before) (hb : Below W.heap.size W W') (hl : laidOutB P = true)
    (hp : ∀ t ∈ f.params.toList, P.readableRec t = true ∧ t < P.types.size) {tb : TypeId} (hres : f.resultTypes = #[tb]) (htb : P.underlying tb = some .bool) (hvars : s.vars = []) (hfn : s.fn H ds = { results := [.lit (.bool true)], args := ds }) :
    s.post enc P f false fresh handsOn again W args (.bool true) W' := by
  have hWl := hW.lt
  obtain ⟨p, q, hA, hV, rfl, hfz, hnd⟩ := hW
  rw [hvars] at hV
  obtain ⟨rfl, rfl⟩ := trodVars_none hV
  have hplt : ∀ x ∈ p, x.block < W.heap.size := fun x hx => hWl x (by simpa using hx)
  have hres0 : ∀ (b : Nat) (sp : Nat → Bool) (hd : Bool), DataW.TrodAll enc P W' b sp hd f.resultTypes.toList ((Value.bool true).resultList f.resultTypes.size) [.lit (.bool true)] [] := fun b sp hd => by
    rw [hres]
    exact trodAll_mk1 (shut_bool htb true)
  have hW0 : DataW.Whole enc P f.params.toList s.vars false W args.toList ds [] (p ++ []) := ⟨p, [], hA, by rw [hvars]; exact hV, rfl, hfz, hnd⟩
  have hfn' : s.fn H (ds ++ []) = { results := [.lit (.bool true)], args := ds } := by rw [List.append_nil]; exact hfn
  refine ⟨ds, [], p ++ [], [], p, [], hW0, ?_, ?_, ?_, ?_, fun _ => ⟨?_, ?_⟩⟩
  · rw [hfn']; exact hres0 _ _ _
  · rw [hfn']; exact trodAll_stays hl hb (fun b hb' => by simpa using hb') hp hplt hA
  · rw [hfn', hvars]; exact rfl
  · refine ⟨hb.os, hb.output, fun i hi => ?_⟩
    rw [hb.block i hi]
    cases W.heap[i]? with
    | none => trivial
    | some o => cases o <;> simp
  · intro j t r h1 h2
    rw [hres] at h1 h2
    cases j with
    | zero =>
      simp at h1
      subst h1
      simp [Value.resultList] at h2
      subst h2
      exact okWide_bool_mk htb true
    | succ j => simp at h1
  · refine ⟨[.lit (.bool true)] ++ ds, [], ([] ++ p) ++ [], ⟨[] ++ p, [], trodAll_append (trodAll_stays hl hb (fun _ _ => rfl) hp hplt hA) (hres0 _ _ _), by rw [hvars]; exact rfl, rfl, ?_, by simp⟩, ?_⟩
    · intro b off hx
      have hx' : MemPlace.cell b off ∈ p := by simpa using hx
      have := hfz b off (by simpa using hx')
      rw [← this]
      have hlt := hplt _ hx'
      exact World.frozen?_of_block (hb.block b hlt)
    · intro x hx _
      simpa using hx
end
end Go.VM
