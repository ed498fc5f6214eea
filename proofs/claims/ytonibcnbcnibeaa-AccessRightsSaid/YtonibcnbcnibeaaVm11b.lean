/-
  A law that returns true: from plain data to the statement's own terms. No program is named here.
-/
import Derived.Test.YtonibcnbcnibeaaVm11a
import Derived.Carry
import Derived.WideKeyArgs
namespace Go.VM
open Go.RowKit Go.ChangeShapes Go.WideShapes

section
variable {H : Type} {enc : TypeId × Value → H} {P : Program}

/-- What a value of a plain type reads as. -/
def packT (P : Program) (t : TypeId) (ys : List V) : V := if isAggB P t then .a ys else ys.headD .ud
def FitAll (P : Program) : List TypeId → List V → Prop
  | [], xs => xs = []
  | t :: ts, xs => ∃ ys r, xs = packT P t ys :: r ∧ Fit P 12 t ys ∧ FitAll P ts r

theorem okWide_one {w : World} {r : Reach} {b : Nat} {t : TypeId} {v : Value} (h : Value.okWide P w r b t v) (hn : isAggB P t = false) : v.cells = #[v] := by
  have hc : Cell.okWide P w r b t v := by
    unfold Value.okWide at h
    unfold isAggB at hn
    split at h <;> simp_all
  cases v with
  | agg cs =>
    exfalso
    unfold Cell.okWide at hc
    split at hc <;> simp_all [Cell.ok]
  | _ => rfl

theorem trod_rep {w : World} {r : Reach} {b : Nat} {t : TypeId} {v : Value} {d : DataW H} {ps : List MemPlace} {sp : Nat → Bool} {held : Bool} (hp : plainT P 12 t = true) (hval : Value.okWide P w r b t v) (h : DataW.Trod enc P w 0 sp held t v d ps) :
    ∃ ys, Fit P 12 t ys ∧ Rep (All w) w v (packT P t ys) := by
  obtain ⟨fuel, h⟩ := h
  obtain ⟨ys, hr, hc, hf, hl⟩ := trod_fit 12 fuel t _ _ hp h
  refine ⟨ys, hf, ?_⟩
  unfold packT
  cases ha : isAggB P t with
  | true =>
    have : ∃ cs, v = .agg cs := by
      unfold Value.okWide at hval
      unfold isAggB at ha
      split at hval
      · obtain ⟨cs, h, _⟩ := hval; exact ⟨cs, h⟩
      · obtain ⟨cs, h, _⟩ := hval; exact ⟨cs, h⟩
      · split at ha <;> simp_all
    obtain ⟨cs, rfl⟩ := this
    have := Rep.mk_agg hc (show Reps (All w) w cs.toList ys from hr)
    simpa using this
  | false =>
    rw [okWide_one hval ha] at hr
    match ys, hr with
    | [], hr => exact absurd hr.1 (by simp)
    | [y], hr => simpa using hr.head
    | _ :: _ :: _, hr => exact absurd hr.1 (by simp)

theorem trodAll_reps {w : World} {r : Reach} {b : Nat} {sp : Nat → Bool} {held : Bool} : ∀ {ts : List TypeId} {vs : List Value} {ds : List (DataW H)} {ps : List MemPlace}, (∀ t ∈ ts, plainT P 12 t = true) → (∀ (j : Nat) t v, ts[j]? = some t → vs[j]? = some v → Value.okWide P w r b t v) →
    DataW.TrodAll enc P w 0 sp held ts vs ds ps → ∃ xs, FitAll P ts xs ∧ Reps (All w) w vs xs
  | [], vs, ds, ps, _, _, h => by
    obtain ⟨rfl, _, _⟩ := trodAll_nil h
    exact ⟨[], rfl, Reps.nil⟩
  | t :: ts, vs, ds, ps, hp, hv, h => by
    obtain ⟨v, vs', d, ds', a, c, rfl, rfl, rfl, h1, h2⟩ := trodAll_cons h
    obtain ⟨ys, hf, hr⟩ := trod_rep (hp t (List.mem_cons_self ..)) (hv 0 t v rfl rfl) h1
    obtain ⟨xs, hfs, hrs⟩ := trodAll_reps (fun t ht => hp t (List.mem_cons_of_mem _ ht)) (fun j t v ht hv' => hv (j + 1) t v (by simpa using ht) (by simpa using hv')) h2
    exact ⟨_, ⟨ys, xs, rfl, hf, hfs⟩, Reps.cons hr hrs⟩

theorem trodAll_stays {W W' : World} {sp : Nat → Bool} (hl : laidOutB P = true) (hb : Below W.heap.size W W') (hsp : ∀ b, b < W.heap.size → sp b = true) : ∀ {ts : List TypeId} {vs : List Value} {ds : List (DataW H)} {ps : List MemPlace}, (∀ t ∈ ts, P.readableRec t = true ∧ t < P.types.size) → (∀ p ∈ ps, p.block < W.heap.size) →
    DataW.TrodAll enc P W 0 (fun _ => true) true ts vs ds ps → DataW.TrodAll enc P W' 0 sp true ts vs ds ps
  | [], vs, ds, ps, _, _, h => by
    obtain ⟨rfl, rfl, rfl⟩ := trodAll_nil h
    exact rfl
  | t :: ts, vs, ds, ps, hp, hlt, h => by
    obtain ⟨v, vs', d, ds', a, c, rfl, rfl, rfl, h1, h2⟩ := trodAll_cons h
    obtain ⟨hr, hrow⟩ := hp t (List.mem_cons_self ..)
    refine ⟨a, c, WideElems.Trod_stays hl hr hrow h1 (fun x hx => hb.same (hlt x (List.mem_append_left _ hx))) (fun x hx => hsp _ (hlt x (List.mem_append_left _ hx))), ?_, rfl⟩
    exact trodAll_stays hl hb hsp (fun t ht => hp t (List.mem_cons_of_mem _ ht)) (fun p hp => hlt p (List.mem_append_right _ hp)) h2

/-- The answer true, and the arguments as they were. -/
theorem post_true {f : Func} {s : ChangeSpec} {fresh handsOn again : Bool} {W W' : World} {args : Array Value} {ds gs : List (DataW H)} {before : List MemPlace} (hW : DataW.Whole enc P f.params.toList s.vars false W args.toList ds gs before) (hb : Below W.heap.size W W') (hl : laidOutB P = true)
    (hp : ∀ t ∈ f.params.toList, P.readableRec t = true ∧ t < P.types.size) {tb : TypeId} (hres : f.resultTypes = #[tb]) (htb : P.underlying tb = some .bool) (hvars : s.vars = []) (hfn : s.fn H ds = { results := [.lit (.bool true)], args := ds }) :
    s.post enc P f false fresh handsOn again W args (.bool true) W' := by
  have hWl := hW.lt
  obtain ⟨p, q, hA, hV, rfl, hfz, hnd⟩ := hW
  rw [hvars] at hV
  obtain ⟨rfl, rfl⟩ := trodVars_none hV
  have hplt : ∀ x ∈ p, x.block < W.heap.size := fun x hx => hWl x (by simpa using hx)
  have hres0 : ∀ (b : Nat) (sp : Nat → Bool) (hd : Bool), DataW.TrodAll enc P W' b sp hd f.resultTypes.toList ((Value.bool true).resultList f.resultTypes.size) [.lit (.bool true)] [] := fun b sp hd => by
    rw [hres]
    exact trodAll_mk1 (shut_bool htb true)
  have hW0 : DataW.Whole enc P f.params.toList s.vars false W args.toList ds [] (p ++ []) := ⟨p, [], hA, by rw [hvars]; exact hV, rfl, hfz, hnd⟩
  have hfn' : s.fn H (ds ++ []) = { results := [.lit (.bool true)], args := ds } := by rw [List.append_nil]; exact hfn
  refine ⟨ds, [], p ++ [], [], p, [], hW0, ?_, ?_, ?_, ?_, fun _ => ⟨?_, ?_⟩⟩
  · rw [hfn']; exact hres0 _ _ _
  · rw [hfn']; exact trodAll_stays hl hb (fun b hb' => by simpa using hb') hp hplt hA
  · rw [hfn', hvars]; exact rfl
  · refine ⟨hb.os, hb.output, fun i hi => ?_⟩
    rw [hb.block i hi]
    cases W.heap[i]? with
    | none => trivial
    | some o => cases o <;> simp
  · intro j t r h1 h2
    rw [hres] at h1 h2
    cases j with
    | zero =>
      simp at h1
      subst h1
      simp [Value.resultList] at h2
      subst h2
      exact okWide_bool_mk htb true
    | succ j => simp at h1
  · refine ⟨[.lit (.bool true)] ++ ds, [], ([] ++ p) ++ [], ⟨[] ++ p, [], trodAll_append (trodAll_stays hl hb (fun _ _ => rfl) hp hplt hA) (hres0 _ _ _), by rw [hvars]; exact rfl, rfl, ?_, by simp⟩, ?_⟩
    · intro b off hx
      have hx' : MemPlace.cell b off ∈ p := by simpa using hx
      have := hfz b off (by simpa using hx')
      rw [← this]
      have hlt := hplt _ hx'
      exact World.frozen?_of_block (hb.block b hlt)
    · intro x hx _
      simpa using hx
/-- The contract of a law whose code answers true whatever its arguments hold. -/
theorem calls_true {f : FuncId} {fn : Func} {s : ChangeSpec} {fresh handsOn again : Bool} (hl : laidOutB P = true) (hp : ∀ t ∈ fn.params.toList, P.readableRec t = true ∧ t < P.types.size) (hplain : ∀ t ∈ fn.params.toList, plainT P 12 t = true)
    {tb : TypeId} (hres : fn.resultTypes = #[tb]) (htb : P.underlying tb = some .bool) (hvars : s.vars = []) (hfn : ∀ ds : List (DataW H), ds.length = fn.params.toList.length → s.fn H ds = { results := [.lit (.bool true)], args := ds })
    (hPF : ∀ xs, FitAll P fn.params.toList xs → PF P f xs (.b true)) {r : Reach} {W : World} {base : Nat} {args : Array Value} {ds gs : List (DataW H)} {before : List MemPlace}
    (hval : ∀ (j : Nat) t v, fn.params[j]? = some t → args[j]? = some v → Value.okWide P W r base t v) (hW : DataW.Whole enc P fn.params.toList s.vars false W args.toList ds gs before) :
    Calls P f args W fun e W' => ∃ v, e = .returned v ∧ s.post enc P fn false fresh handsOn again W args v W' := by
  obtain ⟨p, q, hA, hrest⟩ := hW
  obtain ⟨xs, hfit, hreps⟩ := trodAll_reps hplain (fun j t v ht hv => hval j t v (by simpa using ht) (by simpa using hv)) hA
  have hlen : ∀ {ts : List TypeId} {vs : List Value} {ds : List (DataW H)} {ps : List MemPlace}, DataW.TrodAll enc P W 0 (fun _ => true) true ts vs ds ps → ds.length = ts.length := by
    intro ts
    induction ts with
    | nil => intro vs ds ps h; obtain ⟨_, rfl, _⟩ := trodAll_nil h; rfl
    | cons t ts ih => intro vs ds ps h; obtain ⟨v, vs', d, ds', a, c, rfl, rfl, rfl, _, h2⟩ := trodAll_cons h; simp [ih h2]
  have := hPF xs hfit (All W) W args.toList (fun _ h => h) hreps
  simp only [Array.toArray_toList] at this
  refine this.mono fun e W' ⟨v, he, hb, S', _, _, hr⟩ => ⟨v, he, ?_⟩
  have hv : v = .bool true := (Res.val hr (by rfl)).val (by rfl)
  subst hv
  exact post_true ⟨p, q, hA, hrest⟩ hb hl hp hres htb hvars (hfn ds (hlen hA))
end
end Go.VM
