/-
  The table of what is left: the contracts of taking, and of the match of an item.
-/
import Derived.Test.YtmhpmghhgppdnaaTab3
namespace Go.Proofs.Ytmhpmghhgppdnaa
open Go.VM Go.RowKit
abbrev noneF : Maps → Nat → List V → Option (V × Maps) := fun _ _ _ => none
abbrev noAd : Maps → Nat → List V → List V → Option Maps := fun _ _ _ _ => none
theorem sound0 (hmut : MutOK Try.prog) : SoundO Try.prog O0 := den_sound (fun f fc h => codes_ok _ (tabOf_mem h)) (fun f xs y h => by cases h) hmut
theorem soundR0 : SoundR Try.prog (mapsR Try.prog noneF) := mapsR_sound fun s f zs y s' h => by cases h
section
variable {its : List Item} {g1 g2 g3 : Nat} {x : Item} {pass : Int} {s : Maps} {tak : List Int}
theorem take_PFG (hmut : MutOK Try.prog) (cf : Maps → Nat → List V → Option (V × Maps)) (m1 m2 : V) (l : List Int) (fn : Nat) (fit : Item → Bool) (hl : l.length ≤ 1000000) (hin : ∀ k ∈ l, 0 ≤ k ∧ k < its.length) (hs : isSet s g3 tak) (hfit : ∀ y ∈ its, O0 fn [y.v, .r x.cells] = some (.b (fit y))) :
    PFG Try.prog (mapsR Try.prog cf) 41 [tabV its m1 m2 g3, .l (ints l), .f (.func fn) [] [.r x.cells]] s (takeY (takeP its tak l fit)) (takeS s g3 tak (takeP its tak l fit)) :=
  show PFG Try.prog (mapsR Try.prog noneF) 41 _ s _ _ from bodyG_sound (ad := noAd) (sound0 hmut) soundR0 Try.func41 comp41 rfl rfl (take_WG its m1 m2 l fn x fit tak hl hin hs hfit)
open Classical in
/-- One call that turns the maps. -/
noncomputable def oneF (s0 : Maps) (f0 : Nat) (zs0 : List V) (y0 : V) (s1 : Maps) : Maps → Nat → List V → Option (V × Maps) := fun s f zs => if f = f0 ∧ zs = zs0 ∧ s = s0 then some (y0, s1) else none
theorem oneF_sound {s0 s1 : Maps} {f0 : Nat} {zs0 : List V} {y0 : V} (hf : okFn Try.prog f0 = true) (hy : okY y0 = true) (h : PFG Try.prog (mapsR Try.prog noneF) f0 zs0 s0 y0 s1) : SoundR Try.prog (mapsR Try.prog (oneF s0 f0 zs0 y0 s1)) := by
  refine mapsR_sound fun s f zs y s' he _ _ _ => ?_
  unfold oneF at he
  split at he
  · rename_i hc
    obtain ⟨rfl, rfl, rfl⟩ := hc
    cases he
    exact ⟨hf, hy, h⟩
  · cases he
theorem takeY_ok (r : Option Int) : okY (takeY r) = true := by cases r <;> rfl
/-- The items that may be matched with x in a pass, and those of them that are. -/
def candP (its : List Item) (x : Item) (pass : Int) : List Int := if pass = 1 then byRef its x.ref else byAmt its x.amount
def fitP (x : Item) (pass : Int) (y : Item) : Bool := if pass = 1 then decide (y.amount = x.amount) else if pass = 2 then decide (y.day = x.day) else nearP x.day y.day
def matchP (its : List Item) (tak : List Int) (x : Item) (pass : Int) : Option Int := takeP its tak (candP its x pass) (fitP x pass)
theorem takeY_t (r : Option Int) : takeY r = .t [.i .i64 (r.getD 0), .b r.isSome] := by cases r <;> rfl
theorem frzt_takeY (r : Option Int) : frzt (.t [.i .i64 (r.getD 0), .b r.isSome]) = takeY r := by cases r <;> rfl
theorem one_look {f : Nat} {s0 s1 : Maps} {f0 : Nat} {zs0 zs : List V} {y0 : V} (hf : f = LOOK ∨ f = NILC) : mapEff Try.prog (oneF s0 f0 zs0 y0 s1) s f zs = mapEff Try.prog noneF s f zs := by
  rcases hf with rfl | rfl
  · unfold mapEff; rw [if_pos rfl, if_pos rfl]
  · unfold mapEff
    rw [if_neg (by decide), if_neg (by decide), if_pos rfl, if_neg (by decide), if_neg (by decide), if_pos rfl]
theorem look_same {cf : Maps → Nat → List V → Option (V × Maps)} {f : Nat} {zs : List V} {p : V × Maps} (hf : f = LOOK ∨ f = NILC) (h : mapEff Try.prog cf s f zs = some p) : p.2 = s := by
  unfold mapEff at h
  rcases hf with rfl | rfl
  · rw [if_pos rfl] at h
    split at h
    · simp only [Option.bind_eq_some_iff] at h
      obtain ⟨p', _, z, _, h⟩ := h
      split at h
      · split at h
        · split at h <;> cases h; rfl
        · simp only [Option.bind_eq_some_iff] at h
          obtain ⟨m, _, h⟩ := h
          split at h <;> cases h; rfl
      · cases h
    · cases h
  · rw [if_neg (by decide), if_neg (by decide), if_pos rfl] at h
    split at h
    · cases h; rfl
    · cases h
/-- What an item is asked: c is the call of f0, and all that looks comes ahead of it. -/
def ItemB (c f0 : Nat) (af : List (List Nat)) (i : Nat) : RSt → Prop
  | .g st => st.calm = true ∧ i ≠ c
  | .ef _ f _ => if i = c then f = f0 else (f = LOOK ∨ f = NILC) ∧ ancB af af.length c i = true
  | .gef .. => False
/-- What such a region is asked, where one call turns the maps. -/
theorem items_ok {s1 : Maps} {zs0 : List V} {y0 : V} {af : List (List Nat)} {ss : List RSt} {c f0 : Nat} (hf0 : f0 < 1000000) (h : ∀ (i : Nat) (st : RSt), ss[i]? = some st → ItemB c f0 af i st) : ∀ (i : Nat) (st : RSt), ss[i]? = some st → okItem (mapsR Try.prog (oneF s f0 zs0 y0 s1)) s s1 (oneO s f0 zs0 y0) af c i st := by
  intro i st hi
  have hh := h i st hi
  cases st with
  | g st => exact ⟨hh.1, .inl hh.2⟩
  | gef c t d f xs => exact hh.elim
  | ef d f xs =>
    simp only [okItem, ItemB] at hh ⊢
    by_cases hic : i = c
    · rw [if_pos hic] at hh ⊢
      subst hh
      intro zs y hz
      unfold oneO at hz
      rw [if_pos rfl] at hz
      split at hz
      · rename_i he
        cases hz
        show mapEff Try.prog _ s f zs = _
        unfold mapEff
        rw [if_neg (by simp only [LOOK]; omega), if_neg (by simp only [UPD]; omega), if_neg (by simp only [NILC]; omega)]
        simp only [oneF, he, and_self, if_true]
      · cases hz
    · rw [if_neg hic] at hh ⊢
      refine ⟨.inr hh.2, fun zs y hz => ?_⟩
      unfold oneO at hz
      have hne : f ≠ f0 := by rcases hh.1 with h | h <;> rw [h] <;> simp only [LOOK, NILC] <;> omega
      rw [if_neg hne] at hz
      simp only [Option.map_eq_some_iff] at hz
      obtain ⟨p, hp, rfl⟩ := hz
      show mapEff Try.prog _ s f zs = _
      rw [one_look hh.1]
      have := look_same hh.1 hp
      rw [hp, ← this]
theorem it29_4 : ∀ (i : Nat) (st : RSt), n29_4[i]? = some st → ItemB 9 41 n29_4a i st := by
  intro i st hi
  have hlt : i < 14 := (List.getElem?_eq_some_iff.1 hi).1
  match i, hlt with
  | 0, _ | 1, _ | 3, _ | 4, _ | 5, _ | 6, _ | 8, _ | 10, _ | 11, _ | 12, _ | 13, _ => simp only [n29_4, List.getElem?_cons_zero, List.getElem?_cons_succ, Option.some.injEq] at hi; subst hi; exact ⟨rfl, by decide⟩
  | 2, _ => simp only [n29_4, List.getElem?_cons_zero, List.getElem?_cons_succ, Option.some.injEq] at hi; subst hi; exact ⟨.inr rfl, by decide⟩
  | 7, _ => simp only [n29_4, List.getElem?_cons_zero, List.getElem?_cons_succ, Option.some.injEq] at hi; subst hi; exact ⟨.inl rfl, by decide⟩
  | 9, _ => simp only [n29_4, List.getElem?_cons_zero, List.getElem?_cons_succ, Option.some.injEq] at hi; subst hi; rfl
theorem it29_7 : ∀ (i : Nat) (st : RSt), n29_7[i]? = some st → ItemB 9 41 n29_7a i st := by
  intro i st hi
  have hlt : i < 14 := (List.getElem?_eq_some_iff.1 hi).1
  match i, hlt with
  | 0, _ | 1, _ | 3, _ | 4, _ | 5, _ | 6, _ | 8, _ | 10, _ | 11, _ | 12, _ | 13, _ => simp only [n29_7, List.getElem?_cons_zero, List.getElem?_cons_succ, Option.some.injEq] at hi; subst hi; exact ⟨rfl, by decide⟩
  | 2, _ => simp only [n29_7, List.getElem?_cons_zero, List.getElem?_cons_succ, Option.some.injEq] at hi; subst hi; exact ⟨.inr rfl, by decide⟩
  | 7, _ => simp only [n29_7, List.getElem?_cons_zero, List.getElem?_cons_succ, Option.some.injEq] at hi; subst hi; exact ⟨.inl rfl, by decide⟩
  | 9, _ => simp only [n29_7, List.getElem?_cons_zero, List.getElem?_cons_succ, Option.some.injEq] at hi; subst hi; rfl
theorem it29_10 : ∀ (i : Nat) (st : RSt), n29_10[i]? = some st → ItemB 9 41 n29_10a i st := by
  intro i st hi
  have hlt : i < 14 := (List.getElem?_eq_some_iff.1 hi).1
  match i, hlt with
  | 0, _ | 1, _ | 3, _ | 4, _ | 5, _ | 6, _ | 8, _ | 10, _ | 11, _ | 12, _ | 13, _ => simp only [n29_10, List.getElem?_cons_zero, List.getElem?_cons_succ, Option.some.injEq] at hi; subst hi; exact ⟨rfl, by decide⟩
  | 2, _ => simp only [n29_10, List.getElem?_cons_zero, List.getElem?_cons_succ, Option.some.injEq] at hi; subst hi; exact ⟨.inr rfl, by decide⟩
  | 7, _ => simp only [n29_10, List.getElem?_cons_zero, List.getElem?_cons_succ, Option.some.injEq] at hi; subst hi; exact ⟨.inl rfl, by decide⟩
  | 9, _ => simp only [n29_10, List.getElem?_cons_zero, List.getElem?_cons_succ, Option.some.injEq] at hi; subst hi; rfl

theorem match_PFG (hmut : MutOK Try.prog) (h : TabOK its g1 g2 g3 tak s) (hl : its.length ≤ 100000) (hx : I64 x.day) (hy : ∀ y ∈ its, I64 y.day) (cf : Maps → Nat → List V → Option (V × Maps)) :
    PFG Try.prog (mapsR Try.prog cf) 29 [tab3 its g1 g2 g3, x.v, .i .i64 pass] s (takeY (matchP its tak x pass)) (takeS s g3 tak (matchP its tak x pass)) := by
  show PFG Try.prog (mapsR Try.prog noneF) 29 _ s _ _
  have e1 : exec O0 n29_1 (args0 0 [tab3 its g1 g2 g3, x.v, .i .i64 pass]) = some (.n, [(0, tab3 its g1 g2 g3), (1, x.v), (2, .i .i64 pass), (4, .bx x.cells), (6, .i .i64 0), (7, .b false)]) := by simp [n29_1, args0]
  have e2 : exec O0 n29_2 [(0, tab3 its g1 g2 g3), (1, x.v), (2, .i .i64 pass), (4, .bx x.cells), (6, .i .i64 0), (7, .b false)] = some (.n, [(0, tab3 its g1 g2 g3), (1, x.v), (2, .i .i64 pass), (4, .bx x.cells), (6, .i .i64 0), (7, .b false), (8, .i .i64 pass)]) := by simp [n29_2]
  have e3 : exec O0 n29_3 [(0, tab3 its g1 g2 g3), (1, x.v), (2, .i .i64 pass), (4, .bx x.cells), (6, .i .i64 0), (7, .b false), (8, .i .i64 pass)] = some (.n, [(0, tab3 its g1 g2 g3), (1, x.v), (2, .i .i64 pass), (4, .bx x.cells), (6, .i .i64 0), (7, .b false), (8, .i .i64 pass), (9, .b (decide (pass = 1)))]) := by simp [n29_3]
  have fin : ∀ (r : Option Int) (bs : Env) (e : Ex) , e = .r → (∀ j, e ≠ .e j) ∧ (∃ y0, retV code29.res [(6, .i .i64 (r.getD 0)), (7, .b r.isSome)] = some y0 ∧ takeY r = frzt y0) ∧ takeS s g3 tak r = takeS s g3 tak r := by
    rintro r bs e rfl
    exact ⟨fun j h => (by cases h), ⟨.t [.i .i64 (r.getD 0), .b r.isSome], by simp [retV, resVs, resV, code29], (frzt_takeY r).symm⟩, rfl⟩
  by_cases h1 : pass = 1
  · have hp := take_PFG (its := its) (g3 := g3) (x := x) (s := s) (tak := tak) hmut noneF (.mr (some g1)) (.mr (some g2)) (byRef its x.ref) 42 (fun y => decide (y.amount = x.amount)) (Nat.le_trans idxs_len (by omega)) idxs_in h.set (fun y _ => o42 y x)
    have hr : matchP its tak x pass = takeP its tak (byRef its x.ref) (fun y => decide (y.amount = x.amount)) := by
      unfold matchP candP fitP
      simp only [h1, if_true]
    rw [hr]
    generalize takeP its tak (byRef its x.ref) (fun y => decide (y.amount = x.amount)) = r at hp ⊢
    refine bodyG_sound (ρ := mapsR Try.prog (oneF s 41 [tab3 its g1 g2 g3, .l (ints (byRef its x.ref)), .f (.func 42) [] [.r x.cells]] (takeY r) (takeS s g3 tak r))) (ad := noAd) (sound0 hmut) (oneF_sound okf41 (takeY_ok r) hp) Try.func29 comp29 rfl rfl ?_
    unfold code29
    obtain ⟨env1, hd, hk⟩ := d29_4 its g1 g2 g3 x pass h (r.getD 0) r.isSome
    rw [← takeY_t] at hd
    refine WG.seqC e1 (WG.seq' (WG.seqC e2 (WG.blk' (WG.seqC e3 (WG.condT (by simp [h1]) (WG.seq' ⟨_, env1, takeS s g3 tak r, (by simpa [h1] using hd), items_ok (by omega) it29_4, .inl (by decide), ?_⟩))))))
    rw [hk]
    refine WG.endC (e := .r) (env1 := [(6, .i .i64 (r.getD 0)), (7, .b r.isSome)]) (by simp [n29_5]) (fin r [] .r rfl)
  · by_cases h2 : pass = 2
    · have hp := take_PFG (its := its) (g3 := g3) (x := x) (s := s) (tak := tak) hmut noneF (.mr (some g1)) (.mr (some g2)) (byAmt its x.amount) 43 (fun y => decide (y.day = x.day)) (Nat.le_trans idxs_len (by omega)) idxs_in h.set (fun y _ => o43 y x)
      have hr : matchP its tak x pass = takeP its tak (byAmt its x.amount) (fun y => decide (y.day = x.day)) := by
        unfold matchP candP fitP
        simp [h2]
      rw [hr]
      generalize takeP its tak (byAmt its x.amount) (fun y => decide (y.day = x.day)) = r at hp ⊢
      refine bodyG_sound (ρ := mapsR Try.prog (oneF s 41 [tab3 its g1 g2 g3, .l (ints (byAmt its x.amount)), .f (.func 43) [] [.r x.cells]] (takeY r) (takeS s g3 tak r))) (ad := noAd) (sound0 hmut) (oneF_sound okf41 (takeY_ok r) hp) Try.func29 comp29 rfl rfl ?_
      unfold code29
      have e6 : exec O0 n29_6 [(0, tab3 its g1 g2 g3), (1, x.v), (2, .i .i64 pass), (4, .bx x.cells), (6, .i .i64 0), (7, .b false), (8, .i .i64 pass), (9, .b (decide (pass = 1)))] = some (.n, E29b its g1 g2 g3 x pass) := by simp [n29_6, h2]
      obtain ⟨env1, hd, hk⟩ := d29_7 its g1 g2 g3 x pass h (r.getD 0) r.isSome
      rw [← takeY_t] at hd
      refine WG.seqC e1 (WG.seq' (WG.seqC e2 (WG.blk' (WG.seqC e3 (WG.condF (by simp [h1]) (WG.seqC e6 (WG.condT (by simp) (WG.seq' ⟨_, env1, takeS s g3 tak r, hd, items_ok (by omega) it29_7, .inl (by decide), ?_⟩))))))))
      rw [hk]
      refine WG.endC (e := .r) (env1 := [(6, .i .i64 (r.getD 0)), (7, .b r.isSome)]) (by simp [n29_8]) (fin r [] .r rfl)
    · have hp := take_PFG (its := its) (g3 := g3) (x := x) (s := s) (tak := tak) hmut noneF (.mr (some g1)) (.mr (some g2)) (byAmt its x.amount) 44 (fun y => nearP x.day y.day) (Nat.le_trans idxs_len (by omega)) idxs_in h.set (fun y hy' => o44 y x hx (hy y hy'))
      have hr : matchP its tak x pass = takeP its tak (byAmt its x.amount) (fun y => nearP x.day y.day) := by
        unfold matchP candP fitP
        simp only [h1, h2, if_false]
      rw [hr]
      generalize takeP its tak (byAmt its x.amount) (fun y => nearP x.day y.day) = r at hp ⊢
      refine bodyG_sound (ρ := mapsR Try.prog (oneF s 41 [tab3 its g1 g2 g3, .l (ints (byAmt its x.amount)), .f (.func 44) [] [.r x.cells]] (takeY r) (takeS s g3 tak r))) (ad := noAd) (sound0 hmut) (oneF_sound okf41 (takeY_ok r) hp) Try.func29 comp29 rfl rfl ?_
      unfold code29
      have e6 : exec O0 n29_6 [(0, tab3 its g1 g2 g3), (1, x.v), (2, .i .i64 pass), (4, .bx x.cells), (6, .i .i64 0), (7, .b false), (8, .i .i64 pass), (9, .b (decide (pass = 1)))] = some (.n, E29c its g1 g2 g3 x pass) := by simp [n29_6, h1, h2]
      obtain ⟨env1, hd, hk⟩ := d29_10 its g1 g2 g3 x pass h (r.getD 0) r.isSome
      rw [← takeY_t] at hd
      refine WG.seqC e1 (WG.seq' (WG.seqC e2 (WG.blk' (WG.seqC e3 (WG.condF (by simp [h1]) (WG.seqC e6 (WG.condF (by simp) (WG.endC (e := .n) (show exec O0 n29_9 _ = _ from exec_skip _ _) ?_))))))))
      refine WG.seq' ⟨_, env1, takeS s g3 tak r, hd, items_ok (by omega) it29_10, .inl (by decide), ?_⟩
      rw [hk]
      refine WG.endC (e := .r) (env1 := [(6, .i .i64 (r.getD 0)), (7, .b r.isSome)]) (by simp [n29_11]) (fin r [] .r rfl)
end
end Go.Proofs.Ytmhpmghhgppdnaa
