/-
  Freezing; what operands read as, and where. No program is named here.
-/
import Derived.Test.YtonibcnbcnibeaaVm9a
namespace Go.VM
open Go.RowKit

section
variable {P : Program} {nt : Nat} {keep : List Nat} {S : Nat → Prop} {base : Nat} {w0 : World} {env : Env} {a : Act} {w : World}

theorem frz_frz (x : V) : frz (frz x) = frz x := by cases x <;> rfl
theorem get_freeze1 (n m : Nat) (env : Env) : get m (freeze1 n env) = if m = n then (get n env).map (fun x => if x.isOwn then frz x else x) else get m env := by
  unfold freeze1
  cases h : get n env with
  | none => by_cases hm : m = n <;> simp [hm, h]
  | some x =>
    simp only
    split
    · rw [get_put]
      by_cases hm : m = n
      · simp [*]
      · simp [hm]
    · by_cases hm : m = n
      · subst hm; simp [*]
      · simp [hm]
theorem Srt.freeze1 (hs : Srt env) (n : Nat) : Srt (freeze1 n env) := by
  unfold VM.freeze1
  split
  · split
    · exact hs.put _ _
    · exact hs
  · exact hs
theorem rd_frz (x : V) (h : x.isOwn = true) : rd (frz x) = rd x := by cases x <;> simp_all [V.isOwn, rd, frz]
theorem rd_freeze1 (n m : Nat) : (get m (freeze1 n env)).bind rd = (get m env).bind rd := by
  rw [get_freeze1]
  by_cases hm : m = n
  · subst hm
    cases h : get m env with
    | none => simp
    | some x =>
      simp only [if_true, Option.map_some, Option.bind_some]
      split
      · exact rd_frz x ‹_›
      · rfl
  · simp [hm]
theorem look_freeze1 (n m : Nat) : look (freeze1 n env) m = look env m := by
  have key : ∀ x : V, x.isOwn = true → (match some x with
      | some (.al m) => (get m (freeze1 n env)).bind rd
      | some (.pe m i off sz) => match (get m (freeze1 n env)).bind rd with
        | some (.l es) => (es[i]?).bind fun e => (sub e.cells off sz).map V.r
        | _ => none
      | some (.pb m off sz) => match (get m (freeze1 n env)).bind rd with
        | some (.r cs) => (sub cs off sz).map V.r
        | _ => none
      | some x => rd x
      | none => none) = rd x := by intro x hx; cases x <;> first | rfl | (simp [V.isOwn] at hx; done)
  unfold look
  rw [get_freeze1]
  by_cases hm : m = n
  · subst hm
    cases h : get m env with
    | none => simp
    | some x =>
      simp only [if_true, Option.map_some]
      by_cases hx : x.isOwn = true
      · rw [if_pos hx]
        cases x <;> first | rfl | (simp [V.isOwn] at hx; done)
      · rw [if_neg hx]
        cases x <;> first | rfl | simp only [rd_freeze1]
  · rw [if_neg hm]
    cases h : get m env with
    | none => rfl
    | some x => cases x <;> first | rfl | simp only [rd_freeze1]
theorem freeze_cons (s : Src) (xs : List Src) : freeze env (s :: xs) = freeze (match owner env s with | some n => freeze1 n env | none => env) xs := rfl
theorem lookS_freeze1 (n : Nat) (s : Src) : lookS (freeze1 n env) s = lookS env s := by
  cases s with
  | c v => rfl
  | t m => exact look_freeze1 n m
theorem lookSs_freeze1 (n : Nat) : ∀ xs, lookSs (freeze1 n env) xs = lookSs env xs
  | [] => rfl
  | s :: xs => by simp only [lookSs, lookS_freeze1, lookSs_freeze1 n xs]
theorem lookSs_freeze : ∀ (ys : List Src) (env : Env) (xs : List Src), lookSs (freeze env ys) xs = lookSs env xs
  | [], _, _ => rfl
  | s :: ys, env, xs => by
    rw [freeze_cons, lookSs_freeze ys]
    cases owner env s with
    | none => rfl
    | some n => exact lookSs_freeze1 n xs

/-- What a slot owns is frozen. -/
theorem FI.freeze1 (hF : FI P nt keep S base w0 env a w) (n : Nat) : FI P nt keep S base w0 (freeze1 n env) a w := by
  cases hx : get n env with
  | none => unfold VM.freeze1; rw [hx]; exact hF
  | some x =>
    by_cases hown : x.isOwn = true
    · obtain ⟨Im, hI1, hI2, hE⟩ := hF.ents
      have hget : ∀ m, get m (VM.freeze1 n env) = if m = n then some (frz x) else get m env := fun m => by rw [get_freeze1, hx]; simp [hown]
      obtain ⟨u, hu, he⟩ := hE.ent n x hx
      have hsmp : x.smp = true := by cases x <;> simp_all [V.isOwn, V.smp]
      have hsmp' : (frz x).smp = true := by cases x <;> simp_all [V.isOwn, V.smp, frz]
      have hnm' : (frz x).names = none := by cases x <;> simp_all [V.isOwn, V.names, frz]
      rw [Ent.res1 hsmp] at he
      let Im' : Nat → Prop := fun b => Im b ∨ blkOf u = some b
      have hbl : ∀ g, blkOf u = some g → g < w.heap.size ∧ base ≤ g ∧ ¬ Im g := fun g hg => Owns.lt hE (n := n) (c := none) ⟨x, u, hx, hown, hu, hg⟩
      have howns : ∀ m c g, Owns (VM.freeze1 n env) (tm a) m c g → m ≠ n ∧ Owns env (tm a) m c g := by
        intro m c g ho
        cases c with
        | none =>
          obtain ⟨y, v, hy, h1, h2⟩ := ho
          rw [hget] at hy
          by_cases hm : m = n
          · rw [if_pos hm] at hy; cases hy; exact absurd h1 (by cases x <;> simp_all [V.isOwn, frz])
          · rw [if_neg hm] at hy; exact ⟨hm, y, v, hy, h1, h2⟩
        | some j =>
          obtain ⟨ys, us, y, v, hy, h1⟩ := ho
          rw [hget] at hy
          by_cases hm : m = n
          · rw [if_pos hm] at hy; cases x <;> simp_all [V.isOwn, frz]
          · rw [if_neg hm] at hy; exact ⟨hm, ys, us, y, v, hy, h1⟩
      refine ⟨hF.srt.freeze1 n, hF.size, hF.defers, hF.below, hF.bsz, fun m y hy => ?_, Im', fun b h => .inl (hI1 b h), fun b h => ?_, fun m y hy => ?_, fun m y k hy hk => ?_, fun m c m' c' g h1 h2 => ?_⟩
      · rw [hget] at hy
        by_cases hm : m = n
        · rw [hm]; exact hF.keys n x hx
        · rw [if_neg hm] at hy; exact hF.keys m y hy
      · rcases h with h | h
        · exact hI2 b h
        · exact ⟨.inr (hbl b h).2.1, (hbl b h).1⟩
      · rw [hget] at hy
        by_cases hm : m = n
        · rw [if_pos hm] at hy
          cases hy
          refine ⟨u, by rw [hm]; exact hu, ?_⟩
          rw [Ent.res1 hsmp']
          have : Rep Im' w u (frz x) := by
            cases x with
            | ow e es => exact he.1.frz (fun b h => .inl h) fun g hg => .inr hg
            | bx cs => exact he.1.frz (fun b h => .inl h) fun g hg => .inr hg
            | _ => simp [V.isOwn] at hown
          cases x <;> first | exact this | (simp [V.isOwn] at hown; done)
        · rw [if_neg hm] at hy
          obtain ⟨v, hv, hent⟩ := hE.ent m y hy
          have hne : ∀ c g, Owns env (tm a) m c g → ¬ Im' g := fun c g ho hg => by
            rcases hg with hg | hg
            · exact (Owns.lt hE ho).2.2 hg
            · exact hm (hE.apart m c n none g ho ⟨x, u, hx, hown, hu, hg⟩).1
          have h2 := hent.move (Im' := Im') (w' := w) (fun b h => .inl h) (fun ho g hg => hne none g ⟨y, v, hy, ho, hv, hg⟩) (fun ys us hys hus j z vv hz hvz ho g hg => by
            subst hys; subst hus
            exact hne (some j) g ⟨ys, us.toList, z, vv, hy, by simpa using hv, hz, ho, by simpa using hvz, hg⟩) (fun b _ => rfl) (fun b h => (hI2 b h).2)
          refine ⟨v, hv, ?_⟩
          cases y with
          | pe k i off sz =>
            obtain ⟨ad, l, c, kk, h3, h4, h5⟩ := h2
            refine ⟨ad, l, c, kk, h3, h4, fun z es hz hfz => ?_⟩
            rw [hget] at hz
            by_cases hk : k = n
            · rw [if_pos hk] at hz
              cases hz
              rw [frz_frz] at hfz
              exact h5 x es (by rw [hk]; exact hx) hfz
            · rw [if_neg hk] at hz; exact h5 z es hz hfz
          | _ => exact h2
      · rw [hget] at hy
        by_cases hm : m = n
        · rw [if_pos hm] at hy; cases hy; rw [hnm'] at hk; cases hk
        · rw [if_neg hm] at hy
          obtain ⟨z, hz, hzn⟩ := hE.closed m y k hy hk
          by_cases hkn : k = n
          · exact ⟨frz x, by rw [hget, if_pos hkn], hnm'⟩
          · exact ⟨z, by rw [hget, if_neg hkn]; exact hz, hzn⟩
      · exact hE.apart m c m' c' g (howns m c g h1).2 (howns m' c' g h2).2
    · have : VM.freeze1 n env = env := by unfold VM.freeze1; rw [hx]; simp [hown]
      rw [this]; exact hF
theorem FI.freeze : ∀ (xs : List Src) {env : Env}, FI P nt keep S base w0 env a w → FI P nt keep S base w0 (freeze env xs) a w
  | [], _, hF => hF
  | s :: xs, env, hF => by
    rw [freeze_cons]
    cases owner env s with
    | none => exact hF.freeze xs
    | some n => exact (hF.freeze1 n).freeze xs

/-- Nothing of a slot's own is reached by an operand. -/
def Loose (env : Env) (s : Src) : Prop := ∀ m x, owner env s = some m → get m env = some x → x.isOwn = false
theorem owner_freeze1 (n : Nat) (s : Src) (m : Nat) (h : owner (freeze1 n env) s = some m) : owner env s = some m ∨ ∃ x, get m (freeze1 n env) = some x ∧ x.isOwn = false := by
  cases s with
  | c v => simp [owner] at h
  | t k =>
    simp only [owner, get_freeze1] at h ⊢
    by_cases hk : k = n
    · subst hk
      rw [if_pos rfl] at h
      cases hx : get k env with
      | none => rw [hx] at h; cases h
      | some x =>
        rw [hx] at h
        simp only [Option.map_some] at h
        by_cases hown : x.isOwn = true
        · rw [if_pos hown] at h
          cases x <;> simp_all [V.isOwn, frz, V.names]
        · rw [if_neg hown] at h; exact .inl h
    · rw [if_neg hk] at h; exact .inl h
theorem loose_keep1 {s : Src} (h : Loose env s) (n : Nat) : Loose (freeze1 n env) s := by
  intro m x hm hx
  rcases owner_freeze1 n s m hm with h1 | ⟨y, hy, hyo⟩
  · rw [get_freeze1] at hx
    by_cases hmn : m = n
    · subst hmn
      rw [if_pos rfl] at hx
      cases hy : get m env with
      | none => rw [hy] at hx; cases hx
      | some y =>
        rw [hy] at hx
        simp only [Option.map_some, Option.some.injEq] at hx
        have := h m y h1 hy
        rw [this] at hx
        simp at hx
        subst hx; exact this
    · rw [if_neg hmn] at hx; exact h m x h1 hx
  · rw [hx] at hy; cases hy; exact hyo
theorem loose_freeze1 {s : Src} {n : Nat} (h : owner env s = some n) : Loose (freeze1 n env) s := by
  intro m x hm hx
  rcases owner_freeze1 n s m hm with h1 | ⟨y, hy, hyo⟩
  · rw [h] at h1; cases h1
    rw [get_freeze1, if_pos rfl] at hx
    cases hy : get n env with
    | none => rw [hy] at hx; cases hx
    | some y =>
      rw [hy] at hx
      simp only [Option.map_some, Option.some.injEq] at hx
      subst hx
      split
      · cases y <;> simp_all [V.isOwn, frz]
      · rename_i hn; simpa using hn
  · rw [hx] at hy; cases hy; exact hyo
theorem loose_freeze : ∀ (xs : List Src) (env : Env), (∀ s, Loose env s → Loose (freeze env xs) s) ∧ ∀ s ∈ xs, Loose (freeze env xs) s
  | [], _ => ⟨fun _ h => h, by simp⟩
  | s :: xs, env => by
    rw [freeze_cons]
    cases ho : owner env s with
    | none =>
      obtain ⟨h1, h2⟩ := loose_freeze xs env
      refine ⟨h1, fun s' hs' => ?_⟩
      rcases List.mem_cons.1 hs' with rfl | hs'
      · exact h1 _ fun m x hm => by rw [ho] at hm; cases hm
      · exact h2 s' hs'
    | some n =>
      obtain ⟨h1, h2⟩ := loose_freeze xs (freeze1 n env)
      refine ⟨fun s' hs' => h1 s' (loose_keep1 hs' n), fun s' hs' => ?_⟩
      rcases List.mem_cons.1 hs' with rfl | hs'
      · exact h1 _ (loose_freeze1 ho)
      · exact h2 s' hs'

/-- What a loose operand reads as lies where nobody owns. -/
theorem look_loose {Im : Nat → Prop} (hE : Ents P Im w base env (tm a)) {n : Nat} (hl : Loose env (.t n)) {v : V} (hv : look env n = some v) : ∃ u, tm a n = some u ∧ Rep Im w u v := by
  have slot : ∀ {m : Nat} {x v : V}, get m env = some x → x.isOwn = false → rd x = some v → ∃ u, tm a m = some u ∧ Rep Im w u v := by
    intro m x v hx ho hv
    obtain ⟨hs, rfl⟩ := rd_some hv
    obtain ⟨u, hu, he⟩ := hE.ent m x hx
    rw [Ent.res1 hs] at he
    refine ⟨u, hu, ?_⟩
    cases x <;> first | exact he | (simp [V.isOwn] at ho; done) | (simp [V.smp] at hs; done)
  unfold look at hv
  cases hx : get n env with
  | none => rw [hx] at hv; cases hv
  | some x =>
    rw [hx] at hv
    by_cases hs : x.names = none
    · have hno : x.isOwn = false := by
        cases ho : x.isOwn with
        | false => rfl
        | true => have := hl n x (by simp [owner, hx, hs, ho]) hx; rw [ho] at this; exact this
      refine slot hx hno ?_
      cases x <;> first | exact hv | (simp [V.names] at hs; done)
    · obtain ⟨u, hu, he⟩ := hE.ent n x hx
      refine ⟨u, hu, ?_⟩
      cases x with
      | al m =>
        simp only at hv
        cases hm : get m env with
        | none => rw [hm] at hv; cases hv
        | some y =>
          rw [hm] at hv
          obtain ⟨u', hu', hr⟩ := slot hm (hl m y (by simp [owner, hx, V.names]) hm) hv
          have : tm a m = some u := he
          rw [this] at hu'; cases hu'
          exact hr
      | pe m i off sz =>
        simp only at hv
        cases hm : get m env with
        | none => rw [hm] at hv; cases hv
        | some y =>
          rw [hm] at hv
          simp only [Option.bind_some] at hv
          cases hy : rd y with
          | none => rw [hy] at hv; cases hv
          | some z =>
            rw [hy] at hv
            cases z with
            | l es =>
              simp only at hv
              cases hei : es[i]? with
              | none => rw [hei] at hv; cases hv
              | some e =>
                rw [hei] at hv
                simp only [Option.bind_some] at hv
                cases hsb : sub e.cells off sz with
                | none => rw [hsb] at hv; cases hv
                | some r =>
                  rw [hsb] at hv
                  simp only [Option.map_some, Option.some.injEq] at hv
                  subst hv
                  obtain ⟨ad, l, c, k, h1, rfl, h3⟩ := he
                  obtain ⟨u', hu', hr⟩ := slot hm (hl m y (by simp [owner, hx, V.names]) hm) hy
                  rw [h1] at hu'; cases hu'
                  exact elem_rep hr (h3 y es hm (rd_some hy).2.symm) hei hsb
            | _ => cases hv
      | pb m off sz =>
        simp only at hv
        cases hm : get m env with
        | none => rw [hm] at hv; cases hv
        | some y =>
          rw [hm] at hv
          simp only [Option.bind_some] at hv
          cases hy : rd y with
          | none => rw [hy] at hv; cases hv
          | some z =>
            rw [hy] at hv
            cases z with
            | r cs =>
              simp only at hv
              cases hsb : sub cs off sz with
              | none => rw [hsb] at hv; cases hv
              | some r =>
                rw [hsb] at hv
                simp only [Option.map_some, Option.some.injEq] at hv
                subst hv
                obtain ⟨ad, h1, rfl⟩ := he
                obtain ⟨u', hu', hr⟩ := slot hm (hl m y (by simp [owner, hx, V.names]) hm) hy
                rw [h1] at hu'; cases hu'
                obtain ⟨ad', vs, hv', hS, hc, hr, hcell⟩ := hr.ptr
                simp only [Value.pointer.injEq, Option.some.injEq] at hv'
                subst hv'
                exact sub_rep hS hc hr hcell hsb
            | _ => cases hv
      | _ => simp [V.names] at hs
end
end Go.VM
