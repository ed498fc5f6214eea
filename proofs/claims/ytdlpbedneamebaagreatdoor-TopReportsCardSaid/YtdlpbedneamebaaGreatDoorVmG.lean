/-
  Writing a slot; freezing what a slot owns; operands. No program is named here.
-/
import Derived.Test.YtdlpbedneamebaaGreatDoorVmF
set_option linter.unusedSectionVars false
namespace Go.VM
open Go.RowKit
variable [Glob]

section
variable {P : Program} {nt : Nat} {keep : List Nat} {S : Nat → Prop} {base : Nat} {w0 : World} {env : Env} {a : Act} {w : World}

abbrev tm (a : Act) : Tm := fun n => a.tmps[n]?
theorem tm_put {a : Act} {d : Nat} {u : Value} (hd : d < a.tmps.size) (n : Nat) : tm (a.put (some d) u) n = if n = d then some u else tm a n := by
  unfold tm
  simp only [Act.put]
  by_cases h : n = d
  · subst h; simp [hd]
  · rw [if_neg h, Array.getElem?_setIfInBounds, if_neg (fun e => h e.symm)]

theorem Ents.ext {Im : Nat → Prop} {env' : Env} {T : Tm} (h : Ents P Im w base env T) (hg : ∀ n, get n env' = get n env) : Ents P Im w base env' T := by
  refine h.sub (fun n x hx => by rw [← hg]; exact hx) fun n x m hx hm => ?_
  rw [hg] at hx
  obtain ⟨y, hy, hn⟩ := h.closed n x m hx hm
  exact ⟨y, by rw [hg]; exact hy, hn⟩

theorem FI.put (hF : FI P nt keep S base w0 env a w) {d : Nat} (hk : d ∈ keep) (hd : d < nt) {w1 : World} (hb : Below w.heap.size w w1) {x : V} {u : Value} (hnm : x.names = none)
    (hx : ∀ Im : Nat → Prop, (∀ b, S b → Im b) → (∀ b, Im b → (S b ∨ base ≤ b) ∧ b < w.heap.size) → Ents P Im w base env (tm a) →
      ∃ Im1 : Nat → Prop, (∀ b, Im b → Im1 b) ∧ (∀ b, Im1 b → (Im b ∨ w.heap.size ≤ b) ∧ b < w1.heap.size) ∧ Ent P Im1 w1 base (put' d x env) (tm (a.put (some d) u)) u x)
    (hown : ∀ c g, Owns (put' d x env) (tm (a.put (some d) u)) d c g → w.heap.size ≤ g) (hown' : ∀ c c' g, Owns (put' d x env) (tm (a.put (some d) u)) d c g → Owns (put' d x env) (tm (a.put (some d) u)) d c' g → c = c') :
    FI P nt keep S base w0 (put' d x env) (a.put (some d) u) w1 := by
  obtain ⟨Im, hI1, hI2, hE⟩ := hF.ents
  obtain ⟨Im1, h1, h2, hent⟩ := hx Im hI1 hI2 hE
  have hda : d < a.tmps.size := by rw [hF.size]; exact hd
  have hE1 := hE.move (w' := w1) h1 (fun n c g ho => by
    have := Owns.lt hE ho
    intro hg
    rcases (h2 g hg).1 with h | h
    · exact this.2.2 h
    · omega) (fun b hb' => hb.block b hb') (fun b h => (hI2 b h).2)
  refine ⟨hF.srt.put' _ _, by simpa [Act.put] using hF.size, hF.defers, hF.below.trans (hb.mono hF.bsz), (fun b hb0 => (hb.block b (hI2 b (hI1 b hb0)).2).trans (hF.kept b hb0)), Nat.le_trans hF.bsz hb.size, fun n y hy => ?_, Im1, fun b hb' => h1 b (hI1 b hb'), fun b hb' => ?_, ?_⟩
  · by_cases hn : n = d
    · subst hn; exact ⟨hk, hd⟩
    · rw [get_put' hF.srt, if_neg hn] at hy
      cases hq : get d env with
      | none => rw [hq] at hy; exact hF.keys n y hy
      | some z =>
        rw [hq] at hy
        simp only at hy
        cases hn' : get n env with
        | none => rw [hn'] at hy; cases hy
        | some y' => exact hF.keys n y' hn'
  · refine ⟨?_, (h2 b hb').2⟩
    rcases (h2 b hb').1 with h | h
    · exact (hI2 b h).1
    · exact .inr (Nat.le_trans hF.bsz h)
  · refine hE1.put hF.srt d x u ((tm_put hda d).trans (if_pos rfl)) (fun m y hm _ => (tm_put hda m).trans (if_neg hm)) hent (fun m hm => by rw [hnm] at hm; cases hm) (fun c g ho n' c' _ ho' => ?_) hown'
    have h3 := hown c g ho
    have h4 := (Owns.lt hE1 ho').1
    have h5 := (Owns.lt hE ho').1
    omega

theorem not_owns {d : Nat} {x : V} {T : Tm} (hs : Srt env) (hx : x.isOwn = false) (ht : ∀ ys, x ≠ .t ys) (c : Option Nat) (g : Nat) : ¬ Owns (put' d x env) T d c g := by
  intro ho
  cases c with
  | none =>
    obtain ⟨y, _, hy, hown, _⟩ := ho
    rw [get_put' hs, if_pos rfl] at hy
    cases hy
    rw [hx] at hown; cases hown
  | some j =>
    obtain ⟨ys, _, _, _, hy, _⟩ := ho
    rw [get_put' hs, if_pos rfl] at hy
    cases hy
    exact ht ys rfl

theorem FI.put_ud (hF : FI P nt keep S base w0 env a w) {d : Nat} (hk : d ∈ keep) (hd : d < nt) {u : Value} : FI P nt keep S base w0 (put' d .ud env) (a.put (some d) u) w :=
  hF.put hk hd (Below.refl _ _) rfl (fun Im _ h2 _ => ⟨Im, fun _ h => h, fun b h => ⟨.inl h, (h2 b h).2⟩, trivial⟩) (fun c g ho => absurd ho (not_owns hF.srt rfl (fun _ e => by cases e) c g)) (fun c c' g ho => absurd ho (not_owns hF.srt rfl (fun _ e => by cases e) c g))

theorem FI.put_rep (hF : FI P nt keep S base w0 env a w) {d : Nat} (hk : d ∈ keep) (hd : d < nt) {w1 : World} (hb : Below w.heap.size w w1) {x : V} {u : Value} (hsmp : x.smp = true) (hno : x.isOwn = false)
    (hx : ∀ Im : Nat → Prop, (∀ b, S b → Im b) → (∀ b, Im b → (S b ∨ base ≤ b) ∧ b < w.heap.size) → Ents P Im w base env (tm a) →
      ∃ Im1 : Nat → Prop, (∀ b, Im b → Im1 b) ∧ (∀ b, Im1 b → (Im b ∨ w.heap.size ≤ b) ∧ b < w1.heap.size) ∧ Rep Im1 w1 u x) :
    FI P nt keep S base w0 (put' d x env) (a.put (some d) u) w1 := by
  have hnm : x.names = none := by cases x <;> first | rfl | (simp [V.smp] at hsmp; done)
  have ht : ∀ ys, x ≠ .t ys := fun ys e => by subst e; simp [V.smp] at hsmp
  refine hF.put hk hd hb hnm (fun Im h1 h2 h3 => ?_) (fun c g ho => absurd ho (not_owns hF.srt hno ht c g)) (fun c c' g ho => absurd ho (not_owns hF.srt hno ht c g))
  obtain ⟨Im1, h4, h5, hr⟩ := hx Im h1 h2 h3
  refine ⟨Im1, h4, h5, ?_⟩
  rw [Ent.res1 hsmp]
  cases x <;> first | exact hr | (simp [V.isOwn] at hno; done) | (simp [V.smp] at hsmp; done)
theorem rep_kind {S : Nat → Prop} {w : World} {u : Value} {v : V} (h : Rep S w u v) : v.isOwn = false := by cases h <;> rfl
theorem FI.put_flat (hF : FI P nt keep S base w0 env a w) {d : Nat} (hk : d ∈ keep) (hd : d < nt) {w1 : World} (hb : Below w.heap.size w w1) {x : V} {u : Value} {S' : Nat → Prop} {w' : World} (hx : Rep S' w' u x) (hfl : x.flat1 = true) :
    FI P nt keep S base w0 (put' d x env) (a.put (some d) u) w1 := by
  have hflat : x.flat = true := by cases x <;> first | exact hfl | (simp [V.flat1] at hfl; done)
  have hsm : x.smp = true := by
    rcases (flat_smp hx).2.2 with h | ⟨ys, rfl⟩
    · exact h
    · simp [V.flat1] at hfl
  exact hF.put_rep hk hd hb hsm (rep_kind hx) fun Im _ h2 _ => ⟨Im, fun _ h => h, fun b h => ⟨.inl h, Nat.lt_of_lt_of_le (h2 b h).2 hb.size⟩, hx.of_flat hflat⟩

theorem FI.put_own (hF : FI P nt keep S base w0 env a w) {d : Nat} (hk : d ∈ keep) (hd : d < nt) {w1 : World} (hb : Below w.heap.size w w1) {x : V} {u : Value} (hown : x.isOwn = true) (hfresh : ∀ g, blkOf u = some g → w.heap.size ≤ g)
    (hx : ∀ Im : Nat → Prop, (∀ b, S b → Im b) → (∀ b, Im b → (S b ∨ base ≤ b) ∧ b < w.heap.size) → Ents P Im w base env (tm a) →
      ∃ Im1 : Nat → Prop, (∀ b, Im b → Im1 b) ∧ (∀ b, Im1 b → (Im b ∨ w.heap.size ≤ b) ∧ b < w1.heap.size) ∧ Res1 P Im1 w1 base u x) :
    FI P nt keep S base w0 (put' d x env) (a.put (some d) u) w1 := by
  have hda : d < a.tmps.size := by rw [hF.size]; exact hd
  have hsmp : x.smp = true := by cases x <;> simp_all [V.isOwn, V.smp]
  have hnm : x.names = none := by cases x <;> simp_all [V.isOwn, V.names]
  have hnt : ∀ ys, x ≠ .t ys := fun ys e => by subst e; simp [V.isOwn] at hown
  have ho : ∀ c g, Owns (put' d x env) (tm (a.put (some d) u)) d c g → c = none ∧ blkOf u = some g := by
    intro c g h
    cases c with
    | none =>
      obtain ⟨y, v, hy, _, hT, hg⟩ := h
      rw [tm_put hda, if_pos rfl] at hT
      cases hT
      exact ⟨rfl, hg⟩
    | some j =>
      obtain ⟨ys, _, _, _, hy, _⟩ := h
      rw [get_put' hF.srt, if_pos rfl] at hy
      cases hy
      exact absurd rfl (hnt ys)
  refine hF.put hk hd hb hnm (fun Im h1 h2 h3 => ?_) (fun c g h => hfresh g (ho c g h).2) (fun c c' g h h' => (ho c g h).1.trans (ho c' g h').1.symm)
  obtain ⟨Im1, h4, h5, hr⟩ := hx Im h1 h2 h3
  exact ⟨Im1, h4, h5, by rw [Ent.res1 hsmp]; exact hr⟩
end
end Go.VM
/-
  Freezing; what operands read as, and where. No program is named here.
-/
namespace Go.VM
open Go.RowKit
variable [Glob]

section
variable {P : Program} {nt : Nat} {keep : List Nat} {S : Nat → Prop} {base : Nat} {w0 : World} {env : Env} {a : Act} {w : World}

theorem frz_frz (x : V) : frz (frz x) = frz x := by cases x <;> rfl
theorem get_freeze1 (n m : Nat) (env : Env) : get m (freeze1 n env) = if m = n then (get n env).map (fun x => if x.isOwn then frz x else x) else get m env := by
  unfold freeze1
  cases h : get n env with
  | none => by_cases hm : m = n <;> simp [hm, h]
  | some x =>
    simp only
    split
    · rw [get_put]
      by_cases hm : m = n
      · simp [*]
      · simp [hm]
    · by_cases hm : m = n
      · subst hm; simp [*]
      · simp [hm]
theorem Srt.freeze1 (hs : Srt env) (n : Nat) : Srt (freeze1 n env) := by
  unfold VM.freeze1
  split
  · split
    · exact hs.put _ _
    · exact hs
  · exact hs
theorem rd_frz (x : V) (h : x.isOwn = true) : rd (frz x) = rd x := by cases x <;> simp_all [V.isOwn, rd, frz]
theorem rd_freeze1 (n m : Nat) : (get m (freeze1 n env)).bind rd = (get m env).bind rd := by
  rw [get_freeze1]
  by_cases hm : m = n
  · subst hm
    cases h : get m env with
    | none => simp
    | some x =>
      simp only [if_true, Option.map_some, Option.bind_some]
      split
      · exact rd_frz x ‹_›
      · rfl
  · simp [hm]
theorem look_freeze1 (n m : Nat) : look (freeze1 n env) m = look env m := by
  have key : ∀ x : V, x.isOwn = true → (match some x with
      | some (.al m) => (get m (freeze1 n env)).bind rd
      | some (.pe m i off sz) => match (get m (freeze1 n env)).bind rd with
        | some (.l es) => (es[i]?).bind fun e => (sub e.cells off sz).map V.r
        | _ => none
      | some (.pb m off sz) => match (get m (freeze1 n env)).bind rd with
        | some (.r cs) => (sub cs off sz).map V.r
        | _ => none
      | some x => rd x
      | none => none) = rd x := by intro x hx; cases x <;> first | rfl | (simp [V.isOwn] at hx; done)
  unfold look
  rw [get_freeze1]
  by_cases hm : m = n
  · subst hm
    cases h : get m env with
    | none => simp
    | some x =>
      simp only [if_true, Option.map_some]
      by_cases hx : x.isOwn = true
      · rw [if_pos hx]
        cases x <;> first | rfl | (simp [V.isOwn] at hx; done)
      · rw [if_neg hx]
        cases x <;> first | rfl | simp only [rd_freeze1]
  · rw [if_neg hm]
    cases h : get m env with
    | none => rfl
    | some x => cases x <;> first | rfl | simp only [rd_freeze1]
theorem freeze_cons (s : Src) (xs : List Src) : freeze env (s :: xs) = freeze (match owner env s with | some n => freeze1 n env | none => env) xs := rfl
theorem lookS_freeze1 (n : Nat) (s : Src) : lookS (freeze1 n env) s = lookS env s := by
  cases s with
  | c v => rfl
  | t m => exact look_freeze1 n m
theorem lookSs_freeze1 (n : Nat) : ∀ xs, lookSs (freeze1 n env) xs = lookSs env xs
  | [] => rfl
  | s :: xs => by simp only [lookSs, lookS_freeze1, lookSs_freeze1 n xs]
theorem lookSs_freeze : ∀ (ys : List Src) (env : Env) (xs : List Src), lookSs (freeze env ys) xs = lookSs env xs
  | [], _, _ => rfl
  | s :: ys, env, xs => by
    rw [freeze_cons, lookSs_freeze ys]
    cases owner env s with
    | none => rfl
    | some n => exact lookSs_freeze1 n xs

theorem FI.freeze1 (hF : FI P nt keep S base w0 env a w) (n : Nat) : FI P nt keep S base w0 (freeze1 n env) a w := by
  cases hx : get n env with
  | none => unfold VM.freeze1; rw [hx]; exact hF
  | some x =>
    by_cases hown : x.isOwn = true
    · obtain ⟨Im, hI1, hI2, hE⟩ := hF.ents
      have hget : ∀ m, get m (VM.freeze1 n env) = if m = n then some (frz x) else get m env := fun m => by rw [get_freeze1, hx]; simp [hown]
      obtain ⟨u, hu, he⟩ := hE.ent n x hx
      have hsmp : x.smp = true := by cases x <;> simp_all [V.isOwn, V.smp]
      have hsmp' : (frz x).smp = true := by cases x <;> simp_all [V.isOwn, V.smp, frz]
      have hnm' : (frz x).names = none := by cases x <;> simp_all [V.isOwn, V.names, frz]
      rw [Ent.res1 hsmp] at he
      let Im' : Nat → Prop := fun b => Im b ∨ blkOf u = some b
      have hbl : ∀ g, blkOf u = some g → g < w.heap.size ∧ base ≤ g ∧ ¬ Im g := fun g hg => Owns.lt hE (n := n) (c := none) ⟨x, u, hx, hown, hu, hg⟩
      have howns : ∀ m c g, Owns (VM.freeze1 n env) (tm a) m c g → m ≠ n ∧ Owns env (tm a) m c g := by
        intro m c g ho
        cases c with
        | none =>
          obtain ⟨y, v, hy, h1, h2⟩ := ho
          rw [hget] at hy
          by_cases hm : m = n
          · rw [if_pos hm] at hy; cases hy; exact absurd h1 (by cases x <;> simp_all [V.isOwn, frz])
          · rw [if_neg hm] at hy; exact ⟨hm, y, v, hy, h1, h2⟩
        | some j =>
          obtain ⟨ys, us, y, v, hy, h1⟩ := ho
          rw [hget] at hy
          by_cases hm : m = n
          · rw [if_pos hm] at hy; cases x <;> simp_all [V.isOwn, frz]
          · rw [if_neg hm] at hy; exact ⟨hm, ys, us, y, v, hy, h1⟩
      refine ⟨hF.srt.freeze1 n, hF.size, hF.defers, hF.below, hF.kept, hF.bsz, fun m y hy => ?_, Im', fun b h => .inl (hI1 b h), fun b h => ?_, fun m y hy => ?_, fun m y k hy hk => ?_, fun m c m' c' g h1 h2 => ?_, hE.glob.move (fun b h => .inl h) fun _ _ => rfl⟩
      · rw [hget] at hy
        by_cases hm : m = n
        · rw [hm]; exact hF.keys n x hx
        · rw [if_neg hm] at hy; exact hF.keys m y hy
      · rcases h with h | h
        · exact hI2 b h
        · exact ⟨.inr (hbl b h).2.1, (hbl b h).1⟩
      · rw [hget] at hy
        by_cases hm : m = n
        · rw [if_pos hm] at hy
          cases hy
          refine ⟨u, by rw [hm]; exact hu, ?_⟩
          rw [Ent.res1 hsmp']
          have : Rep Im' w u (frz x) := by
            cases x with
            | ow e es => exact he.1.frz (fun b h => .inl h) fun g hg => .inr hg
            | bx cs => exact he.1.frz (fun b h => .inl h) fun g hg => .inr hg
            | mp ks vs => obtain ⟨⟨g, es, c, rfl, _⟩, _⟩ := he; exact .um _
            | _ => simp [V.isOwn] at hown
          cases x <;> first | exact this | (simp [V.isOwn] at hown; done)
        · rw [if_neg hm] at hy
          obtain ⟨v, hv, hent⟩ := hE.ent m y hy
          have hne : ∀ c g, Owns env (tm a) m c g → ¬ Im' g := fun c g ho hg => by
            rcases hg with hg | hg
            · exact (Owns.lt hE ho).2.2 hg
            · exact hm (hE.apart m c n none g ho ⟨x, u, hx, hown, hu, hg⟩).1
          have h2 := hent.move (Im' := Im') (w' := w) (fun b h => .inl h) (fun ho g hg => hne none g ⟨y, v, hy, ho, hv, hg⟩) (fun ys us hys hus j z vv hz hvz ho g hg => by
            subst hys; subst hus
            exact hne (some j) g ⟨ys, us.toList, z, vv, hy, by simpa using hv, hz, ho, by simpa using hvz, hg⟩) (fun b _ => rfl) (fun b h => (hI2 b h).2)
          refine ⟨v, hv, ?_⟩
          cases y with
          | pe k i off sz =>
            obtain ⟨ad, l, c, kk, h3, h4, h5⟩ := h2
            refine ⟨ad, l, c, kk, h3, h4, fun z es hz hfz => ?_⟩
            rw [hget] at hz
            by_cases hk : k = n
            · rw [if_pos hk] at hz
              cases hz
              rw [frz_frz] at hfz
              exact h5 x es (by rw [hk]; exact hx) hfz
            · rw [if_neg hk] at hz; exact h5 z es hz hfz
          | _ => exact h2
      · rw [hget] at hy
        by_cases hm : m = n
        · rw [if_pos hm] at hy; cases hy; rw [hnm'] at hk; cases hk
        · rw [if_neg hm] at hy
          obtain ⟨z, hz, hzn⟩ := hE.closed m y k hy hk
          by_cases hkn : k = n
          · exact ⟨frz x, by rw [hget, if_pos hkn], hnm'⟩
          · exact ⟨z, by rw [hget, if_neg hkn]; exact hz, hzn⟩
      · exact hE.apart m c m' c' g (howns m c g h1).2 (howns m' c' g h2).2
    · have : VM.freeze1 n env = env := by unfold VM.freeze1; rw [hx]; simp [hown]
      rw [this]; exact hF
theorem FI.freeze : ∀ (xs : List Src) {env : Env}, FI P nt keep S base w0 env a w → FI P nt keep S base w0 (freeze env xs) a w
  | [], _, hF => hF
  | s :: xs, env, hF => by
    rw [freeze_cons]
    cases owner env s with
    | none => exact hF.freeze xs
    | some n => exact (hF.freeze1 n).freeze xs

def Loose (env : Env) (s : Src) : Prop := ∀ m x, owner env s = some m → get m env = some x → x.isOwn = false
theorem owner_freeze1 (n : Nat) (s : Src) (m : Nat) (h : owner (freeze1 n env) s = some m) : owner env s = some m ∨ ∃ x, get m (freeze1 n env) = some x ∧ x.isOwn = false := by
  cases s with
  | c v => simp [owner] at h
  | t k =>
    simp only [owner, get_freeze1] at h ⊢
    by_cases hk : k = n
    · subst hk
      rw [if_pos rfl] at h
      cases hx : get k env with
      | none => rw [hx] at h; cases h
      | some x =>
        rw [hx] at h
        simp only [Option.map_some] at h
        by_cases hown : x.isOwn = true
        · rw [if_pos hown] at h
          cases x <;> simp_all [V.isOwn, frz, V.names]
        · rw [if_neg hown] at h; exact .inl h
    · rw [if_neg hk] at h; exact .inl h
theorem loose_keep1 {s : Src} (h : Loose env s) (n : Nat) : Loose (freeze1 n env) s := by
  intro m x hm hx
  rcases owner_freeze1 n s m hm with h1 | ⟨y, hy, hyo⟩
  · rw [get_freeze1] at hx
    by_cases hmn : m = n
    · subst hmn
      rw [if_pos rfl] at hx
      cases hy : get m env with
      | none => rw [hy] at hx; cases hx
      | some y =>
        rw [hy] at hx
        simp only [Option.map_some, Option.some.injEq] at hx
        have := h m y h1 hy
        rw [this] at hx
        simp at hx
        subst hx; exact this
    · rw [if_neg hmn] at hx; exact h m x h1 hx
  · rw [hx] at hy; cases hy; exact hyo
theorem loose_freeze1 {s : Src} {n : Nat} (h : owner env s = some n) : Loose (freeze1 n env) s := by
  intro m x hm hx
  rcases owner_freeze1 n s m hm with h1 | ⟨y, hy, hyo⟩
  · rw [h] at h1; cases h1
    rw [get_freeze1, if_pos rfl] at hx
    cases hy : get n env with
    | none => rw [hy] at hx; cases hx
    | some y =>
      rw [hy] at hx
      simp only [Option.map_some, Option.some.injEq] at hx
      subst hx
      split
      · cases y <;> simp_all [V.isOwn, frz]
      · rename_i hn; simpa using hn
  · rw [hx] at hy; cases hy; exact hyo
theorem loose_freeze : ∀ (xs : List Src) (env : Env), (∀ s, Loose env s → Loose (freeze env xs) s) ∧ ∀ s ∈ xs, Loose (freeze env xs) s
  | [], _ => ⟨fun _ h => h, by simp⟩
  | s :: xs, env => by
    rw [freeze_cons]
    cases ho : owner env s with
    | none =>
      obtain ⟨h1, h2⟩ := loose_freeze xs env
      refine ⟨h1, fun s' hs' => ?_⟩
      rcases List.mem_cons.1 hs' with rfl | hs'
      · exact h1 _ fun m x hm => by rw [ho] at hm; cases hm
      · exact h2 s' hs'
    | some n =>
      obtain ⟨h1, h2⟩ := loose_freeze xs (freeze1 n env)
      refine ⟨fun s' hs' => h1 s' (loose_keep1 hs' n), fun s' hs' => ?_⟩
      rcases List.mem_cons.1 hs' with rfl | hs'
      · exact h1 _ (loose_freeze1 ho)
      · exact h2 s' hs'

theorem look_loose {Im : Nat → Prop} (hE : Ents P Im w base env (tm a)) {n : Nat} (hl : Loose env (.t n)) {v : V} (hv : look env n = some v) : ∃ u, tm a n = some u ∧ Rep Im w u v := by
  have slot : ∀ {m : Nat} {x v : V}, get m env = some x → x.isOwn = false → rd x = some v → ∃ u, tm a m = some u ∧ Rep Im w u v := by
    intro m x v hx ho hv
    obtain ⟨hs, rfl⟩ := rd_some hv
    obtain ⟨u, hu, he⟩ := hE.ent m x hx
    rw [Ent.res1 hs] at he
    refine ⟨u, hu, ?_⟩
    cases x <;> first | exact he | (simp [V.isOwn] at ho; done) | (simp [V.smp] at hs; done)
  unfold look at hv
  cases hx : get n env with
  | none => rw [hx] at hv; cases hv
  | some x =>
    rw [hx] at hv
    by_cases hs : x.names = none
    · have hno : x.isOwn = false := by
        cases ho : x.isOwn with
        | false => rfl
        | true => have := hl n x (by simp [owner, hx, hs, ho]) hx; rw [ho] at this; exact this
      refine slot hx hno ?_
      cases x <;> first | exact hv | (simp [V.names] at hs; done)
    · obtain ⟨u, hu, he⟩ := hE.ent n x hx
      refine ⟨u, hu, ?_⟩
      cases x with
      | al m =>
        simp only at hv
        cases hm : get m env with
        | none => rw [hm] at hv; cases hv
        | some y =>
          rw [hm] at hv
          obtain ⟨u', hu', hr⟩ := slot hm (hl m y (by simp [owner, hx, V.names]) hm) hv
          have : tm a m = some u := he
          rw [this] at hu'; cases hu'
          exact hr
      | pe m i off sz =>
        simp only at hv
        cases hm : get m env with
        | none => rw [hm] at hv; cases hv
        | some y =>
          rw [hm] at hv
          simp only [Option.bind_some] at hv
          cases hy : rd y with
          | none => rw [hy] at hv; cases hv
          | some z =>
            rw [hy] at hv
            cases z with
            | l es =>
              simp only at hv
              cases hei : es[i]? with
              | none => rw [hei] at hv; cases hv
              | some e =>
                rw [hei] at hv
                simp only [Option.bind_some] at hv
                cases hsb : sub e.cells off sz with
                | none => rw [hsb] at hv; cases hv
                | some r =>
                  rw [hsb] at hv
                  simp only [Option.map_some, Option.some.injEq] at hv
                  subst hv
                  obtain ⟨ad, l, c, k, h1, rfl, h3⟩ := he
                  obtain ⟨u', hu', hr⟩ := slot hm (hl m y (by simp [owner, hx, V.names]) hm) hy
                  rw [h1] at hu'; cases hu'
                  exact elem_rep hr (h3 y es hm (rd_some hy).2.symm) hei hsb
            | _ => cases hv
      | pb m off sz =>
        simp only at hv
        cases hm : get m env with
        | none => rw [hm] at hv; cases hv
        | some y =>
          rw [hm] at hv
          simp only [Option.bind_some] at hv
          cases hy : rd y with
          | none => rw [hy] at hv; cases hv
          | some z =>
            rw [hy] at hv
            cases z with
            | r cs =>
              simp only at hv
              cases hsb : sub cs off sz with
              | none => rw [hsb] at hv; cases hv
              | some r =>
                rw [hsb] at hv
                simp only [Option.map_some, Option.some.injEq] at hv
                subst hv
                obtain ⟨ad, h1, rfl⟩ := he
                obtain ⟨u', hu', hr⟩ := slot hm (hl m y (by simp [owner, hx, V.names]) hm) hy
                rw [h1] at hu'; cases hu'
                obtain ⟨ad', vs, hv', hS, hc, hr, hcell⟩ := hr.ptr
                simp only [Value.pointer.injEq, Option.some.injEq] at hv'
                subst hv'
                exact sub_rep hS hc hr hcell hsb
            | _ => cases hv
      | _ => simp [V.names] at hs
end
end Go.VM
/-
  Steps: copies, assignments, quiet operations. No program is named here.
-/
namespace Go.VM
open Go.RowKit
variable [Glob]

section
variable {P : Program} {nt : Nat} {keep : List Nat} {S : Nat → Prop} {base : Nat} {w0 : World} {env env' : Env} {a : Act} {w : World} {o : Orc}

theorem ofCell_kind {v : Value} {x : V} (h : ofCell v = some x) : x.isOwn = false ∧ x.smp = true ∧ frz x = x := by
  unfold ofCell at h
  split at h <;> first | (cases h; exact ⟨rfl, rfl, rfl⟩) | cases h
theorem ofConst_kind {v : Value} {x : V} (h : ofConst v = some x) : x.isOwn = false ∧ x.smp = true ∧ frz x = x := by
  unfold ofConst at h
  split at h
  · rename_i cs
    cases h1 : ofCells cs.toList with
    | none => rw [h1] at h; cases h
    | some xs => rw [h1] at h; cases h; exact ⟨rfl, rfl, rfl⟩
  · exact ofCell_kind h

theorem FI.put_const (hF : FI P nt keep S base w0 env a w) {d : Nat} (hk : d ∈ keep) (hd : d < nt) {ty : TypeId} {c : Value} {v : V} (hc : constT P ty c = some v) : FI P nt keep S base w0 (put' d v env) (a.put (some d) c) w := by
  unfold constT at hc
  split at hc
  · cases he : elemTy P ty with
    | none => rw [he] at hc; cases hc
    | some e =>
      rw [he] at hc
      cases hc
      refine hF.put_own hk hd (Below.refl _ _) rfl (fun g hg => by simp [blkOf] at hg) fun Im h1 h2 h3 => ⟨Im, fun _ h => h, fun b h => ⟨.inl h, (h2 b h).2⟩, ?_⟩
      exact ⟨⟨[], ⟨by simp, .inl ⟨rfl, rfl⟩⟩, by simp, by simp [flatc], Reps.nil⟩, fun g hg => by simp [blkOf] at hg⟩
  · cases hc
    exact hF.put_rep hk hd (Below.refl _ _) rfl rfl fun Im _ hI2 _ => ⟨Im, fun _ h => h, fun b h => ⟨.inl h, (hI2 b h).2⟩, .um _⟩
  · obtain ⟨h1, h2, _⟩ := ofConst_kind hc
    exact hF.put_rep hk hd (Below.refl _ _) h2 h1 fun Im _ hI2 _ => ⟨Im, fun _ h => h, fun b h => ⟨.inl h, (hI2 b h).2⟩, ofConst_rep hc⟩

theorem eval_tmp {n : Nat} {u : Value} (h : tm a n = some u) : a.eval (.tmp n) = u := by
  have h' : a.tmps[n]? = some u := h
  simp [Act.eval, Array.getD_eq_getD_getElem?, h']

theorem src_val (hF : FI P nt keep S base w0 env a w) {x : Operand} {s : Src} (hs : src x = some s) {v : V} (hv : lookS env s = some v) : Rep (All w) w (a.eval x) v := by
  obtain ⟨Im, _, hI2, hE⟩ := hF.ents
  cases x with
  | tmp n =>
    simp only [src, Option.some.injEq] at hs
    subst hs
    obtain ⟨u, hu, hr⟩ := look_sound hE (fun b h => (hI2 b h).2) (show look env n = some v from hv)
    rw [eval_tmp hu]; exact hr
  | const c =>
    simp only [src] at hs
    cases hc : ofConst c with
    | none => rw [hc] at hs; cases hs
    | some c' =>
      rw [hc] at hs
      cases hs
      simp only [lookS, Option.some.injEq] at hv
      rw [(ofConst_kind hc).2.2] at hv
      subst hv
      exact ofConst_rep hc
  | func f =>
    simp only [src, Option.some.injEq] at hs
    subst hs
    simp only [lookS, Option.some.injEq] at hv
    subst hv
    exact .f _ #[] #[] [] [] rfl rfl (by simp) (by simp)
  | global g =>
    simp only [src] at hs
    cases hc : globV g with
    | none => rw [hc] at hs; cases hs
    | some c' =>
      rw [hc] at hs
      cases hs
      simp only [lookS, Option.some.injEq] at hv
      obtain ⟨cs, rfl⟩ := globV_kind hc
      subst hv
      exact (hE.glob.move (S' := All w) (fun b h => (hI2 b h).2) fun _ _ => rfl).val hc
theorem src_loose {Im : Nat → Prop} (hE : Ents P Im w base env (tm a)) {x : Operand} {s : Src} (hs : src x = some s) (hl : Loose env s) {v : V} (hv : lookS env s = some v) : Rep Im w (a.eval x) v := by
  cases x with
  | tmp n =>
    simp only [src, Option.some.injEq] at hs
    subst hs
    obtain ⟨u, hu, hr⟩ := look_loose hE hl (show look env n = some v from hv)
    rw [eval_tmp hu]; exact hr
  | const c =>
    simp only [src] at hs
    cases hc : ofConst c with
    | none => rw [hc] at hs; cases hs
    | some c' =>
      rw [hc] at hs
      cases hs
      simp only [lookS, Option.some.injEq] at hv
      rw [(ofConst_kind hc).2.2] at hv
      subst hv
      exact ofConst_rep hc
  | func f =>
    simp only [src, Option.some.injEq] at hs
    subst hs
    simp only [lookS, Option.some.injEq] at hv
    subst hv
    exact .f _ #[] #[] [] [] rfl rfl (by simp) (by simp)
  | global g =>
    simp only [src] at hs
    cases hc : globV g with
    | none => rw [hc] at hs; cases hs
    | some c' =>
      rw [hc] at hs
      cases hs
      simp only [lookS, Option.some.injEq] at hv
      obtain ⟨cs, rfl⟩ := globV_kind hc
      subst hv
      exact hE.glob.val hc
theorem srcs_val (hF : FI P nt keep S base w0 env a w) : ∀ {xs : List Operand} {ss : List Src} {vs : List V}, srcs xs = some ss → lookSs env ss = some vs → Reps (All w) w (xs.map a.eval) vs
  | [], ss, vs, hs, hv => by
    simp only [srcs, Option.some.injEq] at hs; subst hs
    simp only [lookSs, Option.some.injEq] at hv; subst hv
    exact Reps.nil
  | x :: xs, ss, vs, hs, hv => by
    simp only [srcs, Option.bind_eq_some_iff, Option.some.injEq] at hs
    obtain ⟨s, h1, ss', h2, rfl⟩ := hs
    simp only [lookSs, Option.bind_eq_some_iff, Option.some.injEq] at hv
    obtain ⟨v, h3, vs', h4, rfl⟩ := hv
    exact Reps.cons (src_val hF h1 h3) (srcs_val hF h2 h4)
theorem srcs_loose {Im : Nat → Prop} (hE : Ents P Im w base env (tm a)) : ∀ {xs : List Operand} {ss : List Src} {vs : List V}, srcs xs = some ss → (∀ s ∈ ss, Loose env s) → lookSs env ss = some vs → Reps Im w (xs.map a.eval) vs
  | [], ss, vs, hs, _, hv => by
    simp only [srcs, Option.some.injEq] at hs; subst hs
    simp only [lookSs, Option.some.injEq] at hv; subst hv
    exact Reps.nil
  | x :: xs, ss, vs, hs, hl, hv => by
    simp only [srcs, Option.bind_eq_some_iff, Option.some.injEq] at hs
    obtain ⟨s, h1, ss', h2, rfl⟩ := hs
    simp only [lookSs, Option.bind_eq_some_iff, Option.some.injEq] at hv
    obtain ⟨v, h3, vs', h4, rfl⟩ := hv
    exact Reps.cons (src_loose hE h1 (hl s (List.mem_cons_self ..)) h3) (srcs_loose hE h2 (fun s hs => hl s (List.mem_cons_of_mem _ hs)) h4)

theorem FI.put_names (hF : FI P nt keep S base w0 env a w) {d : Nat} (hk : d ∈ keep) (hd : d < nt) {x : V} {u : Value} {m : Nat} (hm : x.names = some m) (hmd : m ≠ d) {y : V} (hy : get m env = some y) (hyn : y.names = none)
    (hx : ∀ Im : Nat → Prop, Ents P Im w base env (tm a) → Ent P Im w base env (tm a) u x) : FI P nt keep S base w0 (put' d x env) (a.put (some d) u) w := by
  obtain ⟨Im, hI1, hI2, hE⟩ := hF.ents
  have hda : d < a.tmps.size := by rw [hF.size]; exact hd
  have hent := hx Im hE
  have hgm : get m (put' d x env) = some y := by
    rw [get_put' hF.srt, if_neg hmd]
    cases hq : get d env with
    | none => exact hy
    | some z => simp only [hy, Option.bind_some]; rw [if_neg (by rw [hyn]; simp)]
  have hTm : tm (a.put (some d) u) m = tm a m := (tm_put hda m).trans (if_neg hmd)
  have hno : ∀ c g, ¬ Owns (put' d x env) (tm (a.put (some d) u)) d c g := fun c g => not_owns hF.srt (by cases x <;> simp_all [V.names, V.isOwn]) (fun ys e => by subst e; simp [V.names] at hm) c g
  refine ⟨hF.srt.put' _ _, by simpa [Act.put] using hF.size, hF.defers, hF.below, hF.kept, hF.bsz, fun n z hz => ?_, Im, hI1, hI2, ?_⟩
  · by_cases hn : n = d
    · subst hn; exact ⟨hk, hd⟩
    · rw [get_put' hF.srt, if_neg hn] at hz
      cases hq : get d env with
      | none => rw [hq] at hz; exact hF.keys n z hz
      | some z' =>
        rw [hq] at hz
        simp only at hz
        cases hn' : get n env with
        | none => rw [hn'] at hz; cases hz
        | some y' => exact hF.keys n y' hn'
  · refine hE.put hF.srt d x u ((tm_put hda d).trans (if_pos rfl)) (fun k y hk _ => (tm_put hda k).trans (if_neg hk)) ?_ (fun k hk => ?_) (fun c g ho => absurd ho (hno c g)) (fun c c' g ho => absurd ho (hno c g))
    · cases x with
      | al k =>
        have : k = m := by simpa [V.names] using hm
        subst this
        exact hTm.trans hent
      | pe k i off sz =>
        have : k = m := by simpa [V.names] using hm
        subst this
        obtain ⟨ad, l, c, kk, h1, h2, h3⟩ := hent
        refine ⟨ad, l, c, kk, hTm.trans h1, h2, fun z es hz => ?_⟩
        rw [hgm] at hz; cases hz
        exact h3 y es hy
      | pb k off sz =>
        have : k = m := by simpa [V.names] using hm
        subst this
        obtain ⟨ad, h1, h2⟩ := hent
        exact ⟨ad, hTm.trans h1, h2⟩
      | _ => simp [V.names] at hm
    · rw [hm] at hk; cases hk
      exact ⟨hmd, y, hy, hyn⟩

theorem step_mv (hF : FI P nt keep S base w0 env a w) {d : Nat} (hk : d ∈ keep) (hd : d < nt) {ty : TypeId} {x : Operand} {s : Src} (hs : srcT P ty x = some s) (hnt : ∀ n ys, s = .t n → get n env ≠ some (.t ys)) (hst : stepS o env (.mv d s) = some env') : FI P nt keep S base w0 env' (a.put (some d) (a.eval x)) w := by
  cases x with
  | const c =>
    simp only [srcT] at hs
    cases hc : constT P ty c with
    | none => rw [hc] at hs; cases hs
    | some v =>
      rw [hc] at hs; cases hs
      simp only [stepS, Option.some.injEq] at hst
      subst hst
      exact hF.put_const hk hd hc
  | func f =>
    simp only [srcT, Option.some.injEq] at hs
    subst hs
    simp only [stepS, Option.some.injEq] at hst
    subst hst
    exact hF.put_rep hk hd (Below.refl _ _) rfl rfl fun Im _ hI2 _ => ⟨Im, fun _ h => h, fun b h => ⟨.inl h, (hI2 b h).2⟩, .f _ #[] #[] [] [] rfl rfl (by simp) (by simp)⟩
  | global g => simp [srcT] at hs
  | tmp n =>
    simp only [srcT, Option.some.injEq] at hs
    subst hs
    simp only [stepS] at hst
    cases hx : get n env with
    | none => rw [hx] at hst; cases hst
    | some y =>
      rw [hx] at hst
      simp only [Option.bind_some] at hst
      obtain ⟨Im0, _, _, hE0⟩ := hF.ents
      obtain ⟨u, hu, he0⟩ := hE0.ent n y hx
      have hev := eval_tmp hu
      rw [hev]
      have main : ∀ (hst : (if d = n ∨ y.names = some d then none else some (put' d (if y.isOwn then .al n else y) env)) = some env') (hy1 : ∀ ys, y ≠ .t ys) (hy2 : y ≠ .ud), FI P nt keep S base w0 env' (a.put (some d) u) w := by
        intro hst hy1 hy2
        split at hst
        · cases hst
        · rename_i hne
          cases hst
          by_cases hown : y.isOwn = true
          · rw [if_pos hown]
            exact hF.put_names hk hd (m := n) rfl (fun e => hne (.inl e.symm)) hx (by cases y <;> simp_all [V.isOwn, V.names]) fun Im hE => hu
          · rw [if_neg hown]
            by_cases hnm : y.names = none
            · have hsmp : y.smp = true := by cases y <;> simp_all [V.names, V.smp]
              refine hF.put_rep hk hd (Below.refl _ _) hsmp (by simpa using hown) fun Im _ hI2 hE => ⟨Im, fun _ h => h, fun b h => ⟨.inl h, (hI2 b h).2⟩, ?_⟩
              obtain ⟨u', hu', he⟩ := hE.ent n y hx
              have := hu.symm.trans hu'; cases this
              rw [Ent.res1 hsmp] at he
              cases y <;> first | exact he | (simp [V.isOwn] at hown; done) | (simp [V.smp] at hsmp; done)
            · obtain ⟨m, hm⟩ := Option.ne_none_iff_exists'.1 hnm
              obtain ⟨z, hz, hzn⟩ := hE0.closed n y m hx hm
              refine hF.put_names hk hd hm (fun e => hne (.inr (by rw [hm, e]))) hz hzn fun Im hE => ?_
              obtain ⟨u', hu', he⟩ := hE.ent n y hx
              have := hu.symm.trans hu'; cases this
              exact he
      cases y <;> first | exact absurd hx (hnt n _ rfl) | exact main hst (by simp) (by simp) | cases hst
end
end Go.VM
/-
  Steps: assignments that hand memory on; quiet operations. No program is named here.
-/
namespace Go.VM
open Go.RowKit
variable [Glob]

section
variable {P : Program} {nt : Nat} {keep : List Nat} {S : Nat → Prop} {base : Nat} {w0 : World} {env env' : Env} {a : Act} {w : World} {o : Orc}

theorem own_kind {y : V} (h : y.isOwn = true) : y.smp = true ∧ y.names = none ∧ ∀ ys, y ≠ .t ys := by
  cases y <;> simp_all [V.isOwn, V.smp, V.names]

theorem FI.hand (hF : FI P nt keep S base w0 env a w) {d : Nat} (hk : d ∈ keep) (hd : d < nt) {m : Nat} {y : V} (hy : get m env = some y) (hown : y.isOwn = true) (hmd : m ≠ d) {u : Value} (hu : tm a m = some u) :
    FI P nt keep S base w0 (hand m d y env) (a.put (some d) u) w := by
  obtain ⟨Im, hI1, hI2, hE⟩ := hF.ents
  have hda : d < a.tmps.size := by rw [hF.size]; exact hd
  obtain ⟨hsmp, hnm, hnt⟩ := own_kind hown
  have hs0 : Srt (purge m env) := hF.srt.filter _
  have hs1 : Srt (del m (purge m env)) := hs0.filter _
  have hg1 : ∀ k, get k (del m (purge m env)) = if k = m then none else get k (purge m env) := fun k => get_del hs0 m k
  have hsub : ∀ k x, get k (del m (purge m env)) = some x → get k env = some x ∧ k ≠ m ∧ x.names ≠ some m := by
    intro k x hx
    rw [hg1] at hx
    split at hx
    · cases hx
    · rename_i hkm
      rw [get_purge hF.srt] at hx
      cases hq : get k env with
      | none => rw [hq] at hx; cases hx
      | some z =>
        rw [hq] at hx
        simp only [Option.bind_some] at hx
        split at hx
        · cases hx
        · cases hx; exact ⟨rfl, hkm, ‹_›⟩
  have hsup : ∀ k x, k ≠ m → get k env = some x → x.names ≠ some m → get k (del m (purge m env)) = some x := by
    intro k x hkm hx hn
    rw [hg1, if_neg hkm, get_purge hF.srt, hx]
    simp only [Option.bind_some]
    rw [if_neg hn]
  have hE1 : Ents P Im w base (del m (purge m env)) (tm a) := hE.sub (fun k x hx => (hsub k x hx).1) fun k x j hx hj => by
    obtain ⟨h1, _, h3⟩ := hsub k x hx
    obtain ⟨z, hz, hzn⟩ := hE.closed k x j h1 hj
    have hjm : j ≠ m := fun e => h3 (by rw [← e]; exact hj)
    exact ⟨z, hsup j z hjm hz (by rw [hzn]; simp), hzn⟩
  obtain ⟨u', hu', he⟩ := hE.ent m y hy
  have := hu.symm.trans hu'; cases this
  have hTd : tm (a.put (some d) u) d = some u := (tm_put hda d).trans (if_pos rfl)
  have hTm : tm (a.put (some d) u) m = some u := ((tm_put hda m).trans (if_neg hmd)).trans hu
  have ho1 : ∀ c g, Owns (put' d y (del m (purge m env))) (tm (a.put (some d) u)) d c g → c = none ∧ blkOf u = some g := by
    intro c g h
    cases c with
    | none =>
      obtain ⟨z, v, hz, _, hT, hg⟩ := h
      rw [hTd] at hT; cases hT
      exact ⟨rfl, hg⟩
    | some j =>
      obtain ⟨ys, _, _, _, hz, _⟩ := h
      rw [get_put' hs1, if_pos rfl] at hz
      cases hz
      exact absurd rfl (hnt ys)
  have hE2 : Ents P Im w base (put' d y (del m (purge m env))) (tm (a.put (some d) u)) := by
    refine hE1.put hs1 d y u hTd (fun k z hk _ => (tm_put hda k).trans (if_neg hk)) ?_ (fun k hk => by rw [hnm] at hk; cases hk) (fun c g h n' c' hn' h' => ?_) (fun c c' g h h' => (ho1 c g h).1.trans (ho1 c' g h').1.symm)
    · rw [Ent.res1 hsmp] at he ⊢; exact he
    · have hg := (ho1 c g h).2
      have h'' : Owns env (tm a) n' c' g ∧ n' ≠ m := by
        cases c' with
        | none => obtain ⟨x, v, hx, h⟩ := h'; exact ⟨⟨x, v, (hsub _ _ hx).1, h⟩, (hsub _ _ hx).2.1⟩
        | some j => obtain ⟨ys, us, x, v, hx, h⟩ := h'; exact ⟨⟨ys, us, x, v, (hsub _ _ hx).1, h⟩, (hsub _ _ hx).2.1⟩
      exact h''.2 (hE.apart _ _ m none g h''.1 ⟨y, u, hy, hown, hu, hg⟩).1
  have hs2 : Srt (put' d y (del m (purge m env))) := hs1.put' _ _
  have hgm : get m (put' d y (del m (purge m env))) = none := by
    rw [get_put' hs1, if_neg hmd, hg1 m, if_pos rfl]
    cases get d (del m (purge m env)) <;> rfl
  have hgd : get d (put' d y (del m (purge m env))) = some y := by rw [get_put' hs1, if_pos rfl]
  have hno : ∀ c g, ¬ Owns (put' m (.al d) (put' d y (del m (purge m env)))) (tm (a.put (some d) u)) m c g := not_owns hs2 rfl (by simp)
  have hE3 : Ents P Im w base (put' m (.al d) (put' d y (del m (purge m env)))) (tm (a.put (some d) u)) :=
    hE2.put hs2 m (.al d) u hTm (fun _ _ _ _ => rfl) hTd (fun k hk => by cases hk; exact ⟨fun e => hmd e.symm, y, hgd, hnm⟩) (fun c g h => absurd h (hno c g)) (fun c c' g h => absurd h (hno c g))
  have hgk : ∀ k, get k (VM.hand m d y env) = get k (put' m (.al d) (put' d y (del m (purge m env)))) := by
    intro k
    unfold VM.hand
    rw [get_put, get_put' hs2, hgm]
    split
    · rfl
    · rename_i hkm
      simp only
      rw [get_put' hs0, get_put' hs1]
      split
      · rfl
      · rw [hg1 d, if_neg (fun e => hmd e.symm), hg1 k, if_neg hkm]
  refine ⟨(hs0.put' d y).put m _, by simpa [Act.put] using hF.size, hF.defers, hF.below, hF.kept, hF.bsz, fun k x hx => ?_, Im, hI1, hI2, hE3.ext hgk⟩
  by_cases hkm : k = m
  · rw [hkm]; exact hF.keys m y hy
  · by_cases hkd : k = d
    · rw [hkd]; exact ⟨hk, hd⟩
    · rw [hgk, get_put' hs2, hgm, if_neg hkm] at hx
      simp only at hx
      rw [get_put' hs1, if_neg hkd] at hx
      cases hq : get d (del m (purge m env)) with
      | none => rw [hq] at hx; exact hF.keys k x (hsub k x hx).1
      | some z =>
        rw [hq] at hx
        simp only at hx
        cases hq' : get k (del m (purge m env)) with
        | none => rw [hq'] at hx; cases hx
        | some z' => exact hF.keys k z' (hsub k z' hq').1

theorem FI.put_same (hF : FI P nt keep S base w0 env a w) {d : Nat} (hk : d ∈ keep) (hd : d < nt) {n : Nat} {y : V} (hy : get n env = some y) (hs : y.smp = true) (ho : y.isOwn = false) {u : Value} (hu : tm a n = some u) : FI P nt keep S base w0 (put' d y env) (a.put (some d) u) w := by
  refine hF.put_rep hk hd (Below.refl _ _) hs ho fun Im _ hI2 hE => ⟨Im, fun _ h => h, fun b h => ⟨.inl h, (hI2 b h).2⟩, ?_⟩
  obtain ⟨u', hu', he⟩ := hE.ent n y hy
  have := hu.symm.trans hu'; cases this
  rw [Ent.res1 hs] at he
  cases y <;> first | exact he | (simp [V.isOwn] at ho; done) | (simp [V.smp] at hs; done)

theorem step_as (hF : FI P nt keep S base w0 env a w) {d : Nat} (hk : d ∈ keep) (hd : d < nt) {ty : TypeId} {x : Operand} {s : Src} (hs : srcT P ty x = some s) (hst : stepS o env (.as d s) = some env') : FI P nt keep S base w0 env' (a.put (some d) (a.eval x)) w := by
  cases x with
  | const c =>
    simp only [srcT] at hs
    cases hc : constT P ty c with
    | none => rw [hc] at hs; cases hs
    | some v =>
      rw [hc] at hs; cases hs
      simp only [stepS, Option.some.injEq] at hst
      subst hst
      exact hF.put_const hk hd hc
  | func f =>
    simp only [srcT, Option.some.injEq] at hs
    subst hs
    simp only [stepS, Option.some.injEq] at hst
    subst hst
    exact hF.put_rep hk hd (Below.refl _ _) rfl rfl fun Im _ hI2 _ => ⟨Im, fun _ h => h, fun b h => ⟨.inl h, (hI2 b h).2⟩, .f _ #[] #[] [] [] rfl rfl (by simp) (by simp)⟩
  | global g => simp [srcT] at hs
  | tmp n =>
    simp only [srcT, Option.some.injEq] at hs
    subst hs
    simp only [stepS] at hst
    cases hx : get n env with
    | none => rw [hx] at hst; cases hst
    | some y =>
      rw [hx] at hst
      simp only [Option.bind_some] at hst
      obtain ⟨Im0, _, _, hE0⟩ := hF.ents
      obtain ⟨u, hu, he0⟩ := hE0.ent n y hx
      have hev := eval_tmp hu
      rw [hev]
      have main : ∀ (m : Nat) (z : V), get m env = some z → tm a m = some u → z.smp = true → (if z.isOwn = true then if m = d then none else some (hand m d z env) else some (put' d z env)) = some env' → FI P nt keep S base w0 env' (a.put (some d) u) w := by
        intro m z hz hm hzs h
        split at h
        · split at h
          · cases h
          · cases h; exact hF.hand hk hd hz ‹_› ‹_› hm
        · cases h; exact hF.put_same hk hd hz hzs (by simpa using ‹¬ z.isOwn = true›) hm
      cases y with
      | al m =>
        simp only at hst
        cases hz : get m env with
        | none => rw [hz] at hst; cases hst
        | some z =>
          rw [hz] at hst
          simp only [Option.bind_some] at hst
          have hzn : z.names = none := by
            obtain ⟨z', hz', hn⟩ := hE0.closed n _ m hx rfl
            rw [hz] at hz'; cases hz'; exact hn
          cases z <;> first | exact main m _ hz he0 rfl hst | (simp [V.names] at hzn; done) | (cases hst; done)
      | _ => first | exact main n _ hx hu rfl hst | cases hst

theorem slot_row {Im : Nat → Prop} {u : Value} {y : V} {es : List V} (h : Res1 P Im w base u y) (hy : frz y = .l es) (hne : es ≠ []) :
    ∃ (ad : Addr) (c k : Nat) (vs : List Value), u = .slice (some ad) es.length c ∧ (∀ e ∈ es, e.cells.length = k) ∧ (∀ x ∈ flatc es, x.cell = true) ∧ Reps Im w vs (flatc es) ∧ ∀ (j : Nat) u, vs[j]? = some u → w.cell? (ad.add j) = some u := by
  cases y with
  | l es' =>
    simp only [frz, V.l.injEq] at hy
    subst hy
    obtain ⟨ad, c, k, vs, rfl, hk, h1, hr, _, hd⟩ := Rep.slice h
    rcases hd with rfl | ⟨ad, rfl, _, hu⟩
    · exact absurd rfl hne
    · exact ⟨ad, c, k, vs, rfl, hk, h1, hr, hu⟩
  | ow e es' =>
    simp only [frz, V.l.injEq] at hy
    subst hy
    obtain ⟨⟨vs, ⟨hl, hv⟩, hk, h1, hr⟩, _⟩ := h
    rcases hv with ⟨_, h0⟩ | ⟨g, cap, cur, rfl, hg', hh, hn, _, hsz, ht⟩
    · exact absurd (List.eq_nil_of_length_eq_zero h0) hne
    · refine ⟨⟨g, 0, none⟩, cap, _, vs, rfl, hk, h1, hr, fun j u hj => ?_⟩
      rw [← ht, List.getElem?_take] at hj
      split at hj
      · simp only [World.cell?, add_block, hh]
        unfold Addr.add
        split
        · rename_i hj0; subst hj0; simpa using hj
        · simpa using hj
      · cases hj
  | _ => simp [frz] at hy
theorem slot_box {Im : Nat → Prop} {u : Value} {y : V} {cs : List V} (h : Res1 P Im w base u y) (hy : frz y = .r cs) :
    ∃ (ad : Addr) (vs : List Value), u = .pointer (some ad) ∧ (∀ x ∈ cs, x.cell = true) ∧ Reps Im w vs cs ∧ ∀ (j : Nat) u, vs[j]? = some u → w.cell? (ad.add j) = some u := by
  cases y with
  | r cs' =>
    simp only [frz, V.r.injEq] at hy
    subst hy
    obtain ⟨ad, vs, rfl, _, h1, hr, hu⟩ := Rep.ptr h
    exact ⟨ad, vs, rfl, h1, hr, hu⟩
  | bx cs' =>
    simp only [frz, V.r.injEq] at hy
    subst hy
    obtain ⟨⟨g, vs, ty, rfl, hb, hh, h1, hr⟩, _⟩ := h
    refine ⟨_, vs, rfl, h1, hr, fun j u hj => ?_⟩
    simp only [World.cell?, add_block, hh]
    unfold Addr.add
    split
    · rename_i hj0; subst hj0; simpa using hj
    · simpa using hj
  | _ => simp [frz] at hy
theorem sub_cells {ad : Addr} {vs : List Value} (hu : ∀ (j : Nat) u, vs[j]? = some u → w.cell? (ad.add j) = some u) (off n : Nat) : ∀ (j : Nat) u, ((vs.drop off).take n)[j]? = some u → w.cell? ((ad.add off).add j) = some u := by
  intro j u hj
  rw [List.getElem?_take] at hj
  split at hj
  · rw [List.getElem?_drop] at hj
    rw [add_add]; exact hu _ u hj
  · cases hj

theorem look_ptr {Im : Nat → Prop} (hE : Ents P Im w base env (tm a)) {n : Nat} {cs : List V} (hv : look env n = some (.r cs)) :
    ∃ (ad : Addr) (vs : List Value), tm a n = some (.pointer (some ad)) ∧ (∀ x ∈ cs, x.cell = true) ∧ Reps Im w vs cs ∧ ∀ (j : Nat) u, vs[j]? = some u → w.cell? (ad.add j) = some u := by
  have box : ∀ {m : Nat} {x : V} {cs : List V}, get m env = some x → rd x = some (.r cs) → ∃ (ad : Addr) (vs : List Value), tm a m = some (.pointer (some ad)) ∧ (∀ x ∈ cs, x.cell = true) ∧ Reps Im w vs cs ∧ ∀ (j : Nat) u, vs[j]? = some u → w.cell? (ad.add j) = some u := by
    intro m x cs hx hr
    obtain ⟨hs, hf⟩ := rd_some hr
    obtain ⟨u, hu, he⟩ := hE.ent m x hx
    rw [Ent.res1 hs] at he
    obtain ⟨ad, vs, rfl, h⟩ := slot_box he hf.symm
    exact ⟨ad, vs, hu, h⟩
  unfold look at hv
  cases hx : get n env with
  | none => rw [hx] at hv; cases hv
  | some x =>
    rw [hx] at hv
    cases x with
    | al m =>
      simp only at hv
      obtain ⟨u, hu, he⟩ := hE.ent n _ hx
      cases hm : get m env with
      | none => rw [hm] at hv; cases hv
      | some y =>
        rw [hm] at hv
        obtain ⟨ad, vs, h1, h⟩ := box hm hv
        have : tm a m = some u := he
        have := this.symm.trans h1; cases this
        exact ⟨ad, vs, hu, h⟩
    | pe m i off sz =>
      simp only at hv
      obtain ⟨u, hu, ad, l, c, k, h1, rfl, h3⟩ := hE.ent n _ hx
      cases hm : get m env with
      | none => rw [hm] at hv; cases hv
      | some y =>
        rw [hm] at hv
        simp only [Option.bind_some] at hv
        cases hy : rd y with
        | none => rw [hy] at hv; cases hv
        | some z =>
          rw [hy] at hv
          cases z with
          | l es =>
            simp only at hv
            cases hei : es[i]? with
            | none => rw [hei] at hv; cases hv
            | some e =>
              rw [hei] at hv
              simp only [Option.bind_some] at hv
              cases hsb : sub e.cells off sz with
              | none => rw [hsb] at hv; cases hv
              | some r =>
                rw [hsb] at hv
                simp only [Option.map_some, Option.some.injEq, V.r.injEq] at hv
                subst hv
                obtain ⟨hs, hf⟩ := rd_some hy
                obtain ⟨u', hu', he⟩ := hE.ent m y hm
                rw [Ent.res1 hs] at he
                have hne : es ≠ [] := fun e => by subst e; simp at hei
                obtain ⟨ad', c', k', vs, rfl, hk, hc, hr, hcell⟩ := slot_row he hf.symm hne
                have := h1.symm.trans hu'
                simp only [Option.some.injEq, Value.slice.injEq] at this
                obtain ⟨rfl, _, _⟩ := this
                have hk' := h3 y es hm hf.symm
                rw [← flatc_at hk' hei] at hsb
                have hrs := ((hr.drop (i * k)).take k).sub hsb
                obtain ⟨_, rfl⟩ := sub_some hsb
                refine ⟨_, _, hu, fun x hx => ?_, hrs, ?_⟩
                · exact hc x (List.mem_of_mem_drop (List.mem_of_mem_take (List.mem_of_mem_drop (List.mem_of_mem_take hx))))
                · rw [← add_add]
                  exact sub_cells (sub_cells hcell (i * k) k) off sz
          | _ => cases hv
    | pb m off sz =>
      simp only at hv
      obtain ⟨u, hu, ad, h1, rfl⟩ := hE.ent n _ hx
      cases hm : get m env with
      | none => rw [hm] at hv; cases hv
      | some y =>
        rw [hm] at hv
        simp only [Option.bind_some] at hv
        cases hy : rd y with
        | none => rw [hy] at hv; cases hv
        | some z =>
          rw [hy] at hv
          cases z with
          | r cs0 =>
            simp only at hv
            cases hsb : sub cs0 off sz with
            | none => rw [hsb] at hv; cases hv
            | some r =>
              rw [hsb] at hv
              simp only [Option.map_some, Option.some.injEq, V.r.injEq] at hv
              subst hv
              obtain ⟨ad', vs, hu', hc, hr, hcell⟩ := box hm hy
              have := h1.symm.trans hu'; cases this
              have hrs := hr.sub hsb
              obtain ⟨_, rfl⟩ := sub_some hsb
              exact ⟨_, _, hu, fun x hx => hc x (List.mem_of_mem_drop (List.mem_of_mem_take hx)), hrs, sub_cells hcell off sz⟩
          | _ => cases hv
    | _ => exact box hx hv

theorem qop_ld_inv {op : Op} {n : Nat} {ag : Bool} {xs : List Operand} (h : qop P op = some (.ld n ag, xs)) : ∃ t x, op = .load t x ∧ xs = [x] ∧ ((P.underlying t).isSome && (isAggB P t || P.cellsOf t == 1)) = true ∧ n = P.cellsOf t ∧ ag = isAggB P t := by
  rcases qop_inv h with hp | ⟨f, args, tys, _, he, _⟩ | ⟨x, args, tys, _, he, _⟩ | ⟨t, n, ps, k, _, _, _, he, _⟩
  · cases op with
    | load t x =>
      simp only [qop] at h
      split at h
      · simp only [Option.some.injEq, Prod.mk.injEq, XOp.ld.injEq] at h
        obtain ⟨⟨rfl, rfl⟩, rfl⟩ := h
        exact ⟨t, x, rfl, rfl, ‹_›, rfl, rfl⟩
      · cases h
    | _ => exfalso; revert h; simp only [qop]; intro h; (repeat' split at h) <;> simp_all [Option.bind_eq_some_iff]
  · cases he
  · cases he
  · cases he

theorem load_at {Im : Nat → Prop} {t : TypeId} (hok : ((P.underlying t).isSome && (isAggB P t || P.cellsOf t == 1)) = true) {ad : Addr} {cs : List V} {vs : List Value} {v : V} (hc : ∀ x ∈ cs, x.cell = true) (hr : Reps Im w vs cs) (hcell : ∀ (j : Nat) u, vs[j]? = some u → w.cell? (ad.add j) = some u)
    (hl : cs.length = P.cellsOf t) (hv : (if isAggB P t = true then some (V.a cs) else cs[0]?) = some v) : ∃ u, Rep Im w u v ∧ (Instr.loadAt t (.pointer (some ad))).run P w = .ok u w := by
  simp only [Bool.and_eq_true, Bool.or_eq_true, beq_iff_eq] at hok
  obtain ⟨hs1, hs2⟩ := hok
  obtain ⟨d, hd⟩ := Option.isSome_iff_exists.1 hs1
  cases ha : isAggB P t with
  | true =>
    rw [ha] at hv
    simp only [if_true, Option.some.injEq] at hv
    subst hv
    refine ⟨.agg vs.toArray, Rep.mk_agg hc hr, ?_⟩
    have hL : (loadCells ad vs.length).run P w = .ok vs.toArray w := run_loadCells_list w ad vs hcell
    simp only [Instr.loadAt, Instr.sureAddr, Sem.run_bind, Sem.run_pure, Result.andThen_ok, loadVar, isAgg_run hd, ha, if_true, sizeOf_run hd, ← hl, ← hr.1, hL]
  | false =>
    rw [ha] at hv
    simp only [Bool.false_eq_true, if_false] at hv
    obtain ⟨u, hu', hru⟩ := hr.getD hv
    refine ⟨u, hru, ?_⟩
    have h0 : w.cell? ad = some u := by simpa [Addr.add] using hcell 0 u hu'
    simp only [Instr.loadAt, Instr.sureAddr, Sem.run_bind, Sem.run_pure, Result.andThen_ok, loadVar, isAgg_run hd, ha, Bool.false_eq_true, if_false]
    rw [run_load]
    simp [h0]
end
end Go.VM
