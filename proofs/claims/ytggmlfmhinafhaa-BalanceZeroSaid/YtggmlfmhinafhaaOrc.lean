/-
  The contracts of Of, At, Turnover, Daily, Moves and Trial; the table's oracle.
-/
import Derived.Test.YtggmlfmhinafhaaExt
import Derived.Test.YtggmlfmhinafhaaMut
namespace Go.Proofs.Ytggmlfmhinafhaa
open Go.RowKit Go.VM Go.Shelf
theorem args1 {S : Nat → Prop} {w : World} {vs : List Value} {x : V} (h : Reps S w vs [x]) : ∃ v, vs = [v] ∧ Rep S w v x := by
  match vs, h with
  | [v], h => exact ⟨v, rfl, h.head⟩
  | [], h => exact absurd h.1 (by simp)
  | _ :: _ :: _, h => exact absurd h.1 (by simp)
theorem args2 {S : Nat → Prop} {w : World} {vs : List Value} {x : V} {n : Int} (h : Reps S w vs [x, .i .i64 n]) : ∃ v, vs = [v, .int .i64 n] ∧ Rep S w v x := by
  match vs, h with
  | [v, u], h =>
    have h1 := h.tail.head
    cases h1
    exact ⟨v, rfl, h.head⟩
  | [], h => exact absurd h.1 (by simp)
  | [_], h => exact absurd h.1 (by simp)
  | _ :: _ :: _ :: _, h => exact absurd h.1 (by simp)
theorem args4 {S : Nat → Prop} {w : World} {vs : List Value} {x : V} {n m k : Int} (h : Reps S w vs [x, .i .i64 n, .i .i64 m, .i .i64 k]) : ∃ v, vs = [v, .int .i64 n, .int .i64 m, .int .i64 k] ∧ Rep S w v x := by
  match vs, h with
  | [v, u, u', u''], h =>
    have h1 := h.tail.head
    have h2 := h.tail.tail.head
    have h3 := h.tail.tail.tail.head
    cases h1; cases h2; cases h3
    exact ⟨v, rfl, h.head⟩
  | [], h => exact absurd h.1 (by simp)
  | [_], h => exact absurd h.1 (by simp)
  | [_, _], h => exact absurd h.1 (by simp)
  | [_, _, _], h => exact absurd h.1 (by simp)
  | _ :: _ :: _ :: _ :: _ :: _, h => exact absurd h.1 (by simp)
/-- The journal, in blocks that lay when the call began. -/
theorem journal {S : Nat → Prop} {w : World} {v : Value} {l : List Entry} (hS : ∀ b, S b → b < w.heap.size) (h : Rep S w v (.l (ents l))) (hj : jok l = true) : ∃ (a : Option Addr) (c : Nat) (es : List Ev), v = .slice a es.length c ∧ es.map entOf = l ∧ EntsAt (fun b => b < w.heap.size) w a es ∧ es.length ≤ 400 ∧ (∀ e ∈ es, e.legs.length ≤ 400) ∧ ∀ e ∈ es, ∀ x ∈ e.legs, KeyOk (x.1, x.2.2) := by
  obtain ⟨a, c, es, rfl, he, hE⟩ := ents_at h
  refine ⟨a, c, es, rfl, he, hE.mono hS, ?_, fun e hx => ?_, fun e hx x hxl => ?_⟩
  · have := jok_len hj
    rw [← he] at this
    simpa using this
  · have := (jok_legs hj (entOf e) (by rw [← he]; exact List.mem_map.2 ⟨e, hx, rfl⟩)).1
    simpa [entOf] using this
  · have := (jok_legs hj (entOf e) (by rw [← he]; exact List.mem_map.2 ⟨e, hx, rfl⟩)).2 (legOf x) (by simp only [entOf]; exact List.mem_map.2 ⟨x, hxl, rfl⟩)
    simp only [legOk, legOf, Bool.and_eq_true] at this
    exact ⟨this.1, by have h := of_decide_eq_true this.2; simpa using h⟩
/-- What is handed back is no memory. -/
theorem pf_flat [Glob] {f : FuncId} {w : World} {S : Nat → Prop} {args : Array Value} {u : Value} {y : V} (hS : ∀ b, S b → b < w.heap.size) (hy : ∀ (w' : World), Res Try.prog S w' w.heap.size u y) (h : Calls Try.prog f args w fun e w' => e = .returned u ∧ Below w.heap.size w w') :
    Calls Try.prog f args w fun e w' => ∃ v, e = .returned v ∧ Below w.heap.size w w' ∧ ∃ S' : Nat → Prop, (∀ b, S b → S' b) ∧ (∀ b, S' b → (S b ∨ w.heap.size ≤ b) ∧ b < w'.heap.size) ∧ Res Try.prog S' w' w.heap.size v y :=
  h.mono fun _ w' ⟨he, hb⟩ => ⟨u, he, hb, S, fun _ h => h, fun b h => ⟨.inl h, Nat.lt_of_lt_of_le (hS b h) hb.size⟩, hy w'⟩
/-- What is handed back is a slice of the call's own. -/
theorem pf_row [Glob] {f : FuncId} {w : World} {S : Nat → Prop} {args : Array Value} {e : TypeId} {k : Nat} {es : List V} (hS : ∀ b, S b → b < w.heap.size) (hc : Try.prog.cellsOf e = k) (hk : ∀ x ∈ es, x.cells.length = k) (h1 : ∀ x ∈ flatc es, x.cell = true) {vals : List Value} (hr : ∀ (S : Nat → Prop) (w' : World), Reps S w' vals (flatc es))
    (h : Calls Try.prog f args w fun ex w' => ∃ v, ex = .returned v ∧ w'.ownsRow w.heap.size e k v es.length vals ∧ Below w.heap.size w w') :
    Calls Try.prog f args w fun ex w' => ∃ v, ex = .returned v ∧ Below w.heap.size w w' ∧ ∃ S' : Nat → Prop, (∀ b, S b → S' b) ∧ (∀ b, S' b → (S b ∨ w.heap.size ≤ b) ∧ b < w'.heap.size) ∧ Res Try.prog S' w' w.heap.size v (.ow e es) := by
  refine h.mono fun ex w' ⟨v, he, ho, hb⟩ => ⟨v, he, hb, S, fun _ h => h, fun b h => ⟨.inl h, Nat.lt_of_lt_of_le (hS b h) hb.size⟩, ⟨vals, by rw [hc]; exact ho, fun x hx => by rw [hc]; exact hk x hx, h1, hr S w'⟩, fun g hg hs => ?_⟩
  have h1 := hS g hs
  rcases ho.2 with ⟨rfl, _⟩ | ⟨g', cap, cur, rfl, hg', _⟩
  · simp [blkOf] at hg
  · simp [blkOf] at hg
    omega
theorem of_PF {l : List Entry} {a : Int} (hj : jok l = true) : PF Try.prog 12 [.l (ents l), .i .i64 a] (.i .i64 (ofF a l)) := by
  intro S w vs hS _ hr
  obtain ⟨v, rfl, hv⟩ := args2 hr
  obtain ⟨ad, c, es, rfl, he, hE, h1, h2, _⟩ := journal hS hv hj
  refine pf_flat (u := .int .i64 (ofF a l)) hS (fun w' => .i _ _) ?_
  have h := callsIn_wide.1 (of_in Fence.wide 3 trivial trivial trivial rfl (by omega) ad c a es w (by omega) (fun e he => by have := h2 e he; omega) hE)
  rw [of_eq, he] at h
  exact h
theorem at_PF {l : List Entry} {a bk vl : Int} (hj : jok l = true) : PF Try.prog 14 [.l (ents l), .i .i64 a, .i .i64 bk, .i .i64 vl] (.i .i64 (atF a bk vl l)) := by
  intro S w vs hS _ hr
  obtain ⟨v, rfl, hv⟩ := args4 hr
  obtain ⟨ad, c, es, rfl, he, hE, h1, h2, _⟩ := journal hS hv hj
  refine pf_flat (u := .int .i64 (atF a bk vl l)) hS (fun w' => .i _ _) ?_
  have h := callsIn_wide.1 (at_in Fence.wide 3 trivial trivial trivial rfl (by omega) ad c a bk vl es w (by omega) (fun e he => by have := h2 e he; omega) hE)
  rw [at_eq, he] at h
  exact h
theorem tu_PF {l : List Entry} {a fr to : Int} (hj : jok l = true) : PF Try.prog 10 [.l (ents l), .i .i64 a, .i .i64 fr, .i .i64 to] (.t [.i .i64 (tuF a fr to l).1, .i .i64 (tuF a fr to l).2]) := by
  intro S w vs hS _ hr
  obtain ⟨v, rfl, hv⟩ := args4 hr
  obtain ⟨ad, c, es, rfl, he, hE, h1, h2, _⟩ := journal hS hv hj
  refine pf_flat (u := .tuple #[.int .i64 (tuF a fr to l).1, .int .i64 (tuF a fr to l).2]) hS (fun w' => ⟨[.int .i64 (tuF a fr to l).1, .int .i64 (tuF a fr to l).2], rfl, rfl, fun j u y hu hy => ?_, fun i j u u' y y' g _ _ _ hy _ ho _ => ?_⟩) ?_
  · rcases j with _ | _ | j
    · simp at hu hy; subst hu; subst hy; exact .i _ _
    · simp at hu hy; subst hu; subst hy; exact .i _ _
    · simp at hu
  · rcases i with _ | _ | i
    · simp at hy; subst hy; simp [V.isOwn] at ho
    · simp at hy; subst hy; simp [V.isOwn] at ho
    · simp at hy
  · have h := callsIn_wide.1 (turn_in Fence.wide 3 trivial trivial trivial rfl (by omega) ad c a fr to es w (by omega) (fun e he => by have := h2 e he; omega) hE)
    rw [tu_eq, he] at h
    exact h
theorem mo_PF {l : List Entry} {a : Int} (hj : jok l = true) : PF Try.prog 19 [.l (ents l), .i .i64 a] (.ow 3 (ints (moF a l))) := by
  intro S w vs hS _ hr
  obtain ⟨v, rfl, hv⟩ := args2 hr
  obtain ⟨ad, c, es, rfl, he, hE, h1, h2, _⟩ := journal hS hv hj
  have hc3 : Try.prog.cellsOf 3 = 1 := by kernel_rfl
  refine pf_row hS hc3 (fun x hx => by rw [← hc3]; exact ints_cells hc3 _ x hx) (ints_cell _) (vals := (moF a l).map (Value.int .i64)) (fun S w' => by rw [flatc_ints]; exact ints_reps _) ?_
  have hlen : (moM (mvs a es)).length ≤ 1000000 := by
    rw [moM_len]
    have := mvs_bound a h2
    omega
  have hs := sortI_ok hlen
  have hcm := compI_ok (zs := isort (moM (mvs a es))) (by rw [(isort_perm _).length_eq]; exact hlen)
  have h := callsIn_wide.1 (moves_in 3 (by omega) ad c a es w h1 h2 hE hs hcm)
  rw [mo_eq, he] at h
  rw [len_ints]
  exact h
theorem da_PF {l : List Entry} {a fr to : Int} (hj : jok l = true) : PF Try.prog 17 [.l (ents l), .i .i64 a, .i .i64 fr, .i .i64 to] (.ow 3 (ints (daF a fr to l))) := by
  intro S w vs hS _ hr
  obtain ⟨v, rfl, hv⟩ := args4 hr
  obtain ⟨ad, c, es, rfl, he, hE, h1, h2, _⟩ := journal hS hv hj
  have hc3 : Try.prog.cellsOf 3 = 1 := by kernel_rfl
  refine pf_row hS hc3 (fun x hx => by rw [← hc3]; exact ints_cells hc3 _ x hx) (ints_cell _) (vals := (daF a fr to l).map (Value.int .i64)) (fun S w' => by rw [flatc_ints]; exact ints_reps _) ?_
  rw [len_ints]
  unfold daF
  by_cases hok : daOk fr to
  · rw [if_pos hok]
    have h := callsIn_wide.1 (daily_in 3 (by omega) ad c a fr to es w (by omega) (fun e he => by have := h2 e he; omega) hE hok)
    have hln := daM_len fr to (mvs a es)
    rw [da_eq, he] at h hln
    rw [daT_len, hln]
    exact h
  · rw [if_neg hok]
    refine (callsIn_wide.1 (daily_no 3 (by omega) _ a fr to w hok)).mono fun ex w' ⟨hx, hb⟩ => ⟨_, hx, World.ownsRow_nil _ _ _ _, hb⟩
theorem tr_PF {l : List Entry} (hj : jok l = true) : PF Try.prog 22 [.l (ents l)] (.ow 44 (encL Leg.v (trF l))) := by
  intro S w vs hS _ hr
  obtain ⟨v, rfl, hv⟩ := args1 hr
  obtain ⟨ad, c, es, rfl, he, hE, h1, h2, h3⟩ := journal hS hv hj
  have hc44 : Try.prog.cellsOf 44 = 3 := by kernel_rfl
  have hn0 := sumsOf_keys es
  have hsl := sumsOf_len h2
  have hkeys : (((outT (sumsOf es)).map toLeg).map legKey).Nodup := by
    rw [List.map_map]
    have h4 : ((outT (sumsOf es)).map (·.1)).Nodup := List.Nodup.sublist (List.Sublist.map _ (List.filter_sublist ..)) hn0
    have h5 : (outT (sumsOf es)).map (legKey ∘ toLeg) = ((outT (sumsOf es)).map (·.1)).map fun k => (k.1, k.2.data.toList) := by rw [List.map_map]; rfl
    rw [h5]
    exact List.Pairwise.map _ (fun x y hxy e => hxy (Prod.ext (Prod.mk.inj e).1 (bytes_inj (Prod.mk.inj e).2))) h4
  have hS2 : ∀ T : Sums, T.Perm (sumsOf es) → SortL (outT T) ((isortL ((outT (sumsOf es)).map toLeg)).map fromLeg) := fun T hT => sortL_ok hkeys (hT.filter _) (by
    have e1 : (outT T).length ≤ T.length := List.length_filter_le _ _
    have e2 := hT.length_eq
    omega)
  have htr : isortL ((outT (sumsOf es)).map toLeg) = trF l := by
    unfold trF; rw [outT_map, sums_map, he]
  have h := callsIn_wide.1 (trial_in 3 (by omega) ad c es w h1 h2 h3 hE hS2)
  rw [htr] at h
  refine pf_row hS hc44 (fun x hx => ?_) (fun x hx => ?_) (vals := ((trF l).map fromLeg).flatMap legVals) (fun S w' => ?_) ?_
  · obtain ⟨y, _, rfl⟩ := List.mem_map.1 hx; rfl
  · obtain ⟨y, hy, hx⟩ := List.mem_flatMap.1 hx
    obtain ⟨z, _, rfl⟩ := List.mem_map.1 hy
    simp [V.cells] at hx
    rcases hx with rfl | rfl | rfl <;> rfl
  · generalize trF l = r
    induction r with
    | nil => exact Reps.nil
    | cons x r ih =>
      rw [List.map_cons, List.flatMap_cons, encL_cons, flatc_cons]
      refine Reps.append (Reps.cons (.i _ _) (Reps.cons (.i _ _) (Reps.cons ?_ Reps.nil))) ih
      have : Rep S w' (.string ⟨x.currency.toArray⟩) (.s (ByteArray.mk x.currency.toArray).data.toList) := .s _
      simp only at this
      exact this
  · rw [List.length_map] at h
    simpa [encL] using h

/-! ### The oracle -/
def toLegs : List V → Option (List Leg)
  | [] => some []
  | .a [.i .i64 a, .i .i64 m, .s c] :: r => (toLegs r).map (⟨a, m, c⟩ :: ·)
  | _ => none
def toEnt : V → Option Entry
  | .a [.i .i64 i0, .i .i64 i1, .i .i64 i2, .i .i64 i3, .i .i64 i4, .i .i64 i5, .s s6, .s s7, .l ls, .i .u64 u] => (toLegs ls).map fun l => ⟨i0, i1, i2, i3, i4, i5, s6, s7, l, u⟩
  | _ => none
def toEnts : List V → Option (List Entry)
  | [] => some []
  | x :: r => (toEnt x).bind fun e => (toEnts r).map (e :: ·)
@[simp] theorem toLegs_enc (l : List Leg) : toLegs (encL Leg.v l) = some l := by
  induction l with
  | nil => rfl
  | cons x l ih => rw [encL_cons, toLegs, ih]; rfl
@[simp] theorem toEnts_enc (l : List Entry) : toEnts (encL Entry.v l) = some l := by
  induction l with
  | nil => rfl
  | cons x l ih => rw [encL_cons, toEnts, ih, toEnt, toLegs_enc]; rfl
theorem toLegs_eq : ∀ {es : List V} {l : List Leg}, toLegs es = some l → es = encL Leg.v l
  | [], l, h => by simp only [toLegs, Option.some.injEq] at h; subst h; rfl
  | x :: r, l, h => by
    unfold toLegs at h
    split at h
    · rename_i he; cases he
    · rename_i a b c r' he
      cases he
      cases hr : toLegs r with
      | none => rw [hr] at h; cases h
      | some ys =>
        rw [hr] at h
        simp only [Option.map_some, Option.some.injEq] at h
        subst h
        rw [toLegs_eq hr]; rfl
    · cases h
theorem toEnt_eq {x : V} {e : Entry} (h : toEnt x = some e) : x = e.v := by
  unfold toEnt at h
  split at h
  · rename_i i0 i1 i2 i3 i4 i5 s6 s7 ls u
    cases hr : toLegs ls with
    | none => rw [hr] at h; cases h
    | some ys =>
      rw [hr] at h
      simp only [Option.map_some, Option.some.injEq] at h
      subst h
      rw [toLegs_eq hr]
  · cases h
theorem toEnts_eq : ∀ {es : List V} {l : List Entry}, toEnts es = some l → es = encL Entry.v l
  | [], l, h => by simp only [toEnts, Option.some.injEq] at h; subst h; rfl
  | x :: r, l, h => by
    rw [toEnts] at h
    cases hx : toEnt x with
    | none => rw [hx] at h; cases h
    | some e =>
      rw [hx] at h
      simp only [Option.bind_some] at h
      cases hr : toEnts r with
      | none => rw [hr] at h; cases h
      | some ys =>
        rw [hr] at h
        simp only [Option.map_some, Option.some.injEq] at h
        subst h
        rw [toEnts_eq hr, toEnt_eq hx]; rfl
def jof (es : List V) : Option (List Entry) := (toEnts es).bind fun l => if jok l = true then some l else none
theorem jof_eq {es : List V} {l : List Entry} (h : jof es = some l) : es = ents l ∧ jok l = true := by
  unfold jof at h
  cases hl : toEnts es with
  | none => rw [hl] at h; cases h
  | some l' =>
    rw [hl] at h
    simp only [Option.bind_some] at h
    split at h
    · rename_i hj
      simp only [Option.some.injEq] at h
      subst h
      exact ⟨toEnts_eq hl, hj⟩
    · cases h
theorem jof_enc {l : List Entry} (h : jok l = true) : jof (ents l) = some l := by simp [jof, h]
def XM : Orc
  | 12, [.l es, .i .i64 a] => (jof es).map fun l => .i .i64 (ofF a l)
  | 14, [.l es, .i .i64 a, .i .i64 bk, .i .i64 vl] => (jof es).map fun l => .i .i64 (atF a bk vl l)
  | 10, [.l es, .i .i64 a, .i .i64 fr, .i .i64 to] => (jof es).map fun l => .t [.i .i64 (tuF a fr to l).1, .i .i64 (tuF a fr to l).2]
  | 17, [.l es, .i .i64 a, .i .i64 fr, .i .i64 to] => (jof es).map fun l => .ow 3 (ints (daF a fr to l))
  | 19, [.l es, .i .i64 a] => (jof es).map fun l => .ow 3 (ints (moF a l))
  | 22, [.l es] => (jof es).map fun l => .ow 44 (encL Leg.v (trF l))
  | _, _ => none
theorem XM_sound {f : Nat} {xs : List V} {y : V} (h : XM f xs = some y) : okFn Try.prog f = true ∧ PF Try.prog f xs y := by
  unfold XM at h
  split at h
  all_goals first
    | (cases h; done)
    | (simp only [Option.map_eq_some_iff] at h
       obtain ⟨l, hl, rfl⟩ := h
       obtain ⟨rfl, hj⟩ := jof_eq hl
       first
       | exact ⟨by kernel_rfl, of_PF hj⟩
       | exact ⟨by kernel_rfl, at_PF hj⟩
       | exact ⟨by kernel_rfl, tu_PF hj⟩
       | exact ⟨by kernel_rfl, da_PF hj⟩
       | exact ⟨by kernel_rfl, mo_PF hj⟩
       | exact ⟨by kernel_rfl, tr_PF hj⟩)
noncomputable def O (X : Orc) : Orc := den tab X
theorem soundX : SoundO Try.prog (O XM) := den_sound (fun _ _ h => codes_ok _ (tabOf_mem h)) (fun _ _ _ h => XM_sound h) mutOK
theorem live : O XM 9 [] = some (.b true) := runN_den (k := 60) 12 9 [] _ (by kernel_rfl)
end Go.Proofs.Ytggmlfmhinafhaa
