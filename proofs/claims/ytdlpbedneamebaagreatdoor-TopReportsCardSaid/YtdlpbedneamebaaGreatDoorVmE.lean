/-
  What the evaluator's slots say of the model's frame. No program is named here.
-/
import Derived.Test.YtdlpbedneamebaaGreatDoorVmD
set_option linter.unusedSectionVars false
namespace Go.VM
open Go.RowKit
variable [Glob]

abbrev Tm := Nat → Option Value
def Ent (P : Program) (Im : Nat → Prop) (w : World) (base : Nat) (env : Env) (T : Tm) (u : Value) : V → Prop
  | .al m => T m = some u
  | .pe m i off _ => ∃ ad l c k, T m = some (.slice (some ad) l c) ∧ u = .pointer (some (ad.add (i * k + off))) ∧ ∀ y es, get m env = some y → frz y = .l es → ∀ e ∈ es, e.cells.length = k
  | .pb m off _ => ∃ ad, T m = some (.pointer (some ad)) ∧ u = .pointer (some (ad.add off))
  | .ud => True
  | .t ys => ∃ us : List Value, u = .tuple us.toArray ∧ us.length = ys.length ∧ ∀ (j : Nat) u y, us[j]? = some u → ys[j]? = some y → y = .ud ∨ Res1 P Im w base u y
  | x => Res1 P Im w base u x
def V.smp : V → Bool
  | .al _ | .pe .. | .pb .. | .ud | .t _ => false
  | _ => true
theorem Ent.res1 {P : Program} {Im : Nat → Prop} {w : World} {base : Nat} {env : Env} {T : Tm} {u : Value} {x : V} (hx : x.smp = true) : Ent P Im w base env T u x = Res1 P Im w base u x := by
  cases x <;> first | rfl | (simp [V.smp] at hx; done)
def Owns (env : Env) (T : Tm) (n : Nat) : Option Nat → Nat → Prop
  | none, g => ∃ x u, get n env = some x ∧ x.isOwn = true ∧ T n = some u ∧ blkOf u = some g
  | some j, g => ∃ (ys : List V) (us : List Value) (y : V) (u : Value), get n env = some (.t ys) ∧ T n = some (.tuple us.toArray) ∧ ys[j]? = some y ∧ y.isOwn = true ∧ us[j]? = some u ∧ blkOf u = some g
structure Ents (P : Program) (Im : Nat → Prop) (w : World) (base : Nat) (env : Env) (T : Tm) : Prop where
  ent : ∀ n x, get n env = some x → ∃ u, T n = some u ∧ Ent P Im w base env T u x
  closed : ∀ n x m, get n env = some x → x.names = some m → ∃ y, get m env = some y ∧ y.names = none
  apart : ∀ n c n' c' g, Owns env T n c g → Owns env T n' c' g → n = n' ∧ c = c'
  glob : GOK Im w

theorem get_put (n m : Nat) (x : V) (env : Env) : get m (put n x env) = if m = n then some x else get m env := by
  induction env with
  | nil => simp [put, get]
  | cons p env ih =>
    simp only [put]
    split
    · simp only [get]
    · split
      · rename_i h1 h2
        simp only [get]
        by_cases h : m = n
        · simp [h]
        · rw [if_neg h, if_neg h, if_neg (by rw [← h2]; exact h)]
      · rename_i h1 h2
        simp only [get, ih]
        by_cases h : m = p.1
        · subst h
          rw [if_pos rfl, if_neg (fun e => h2 e.symm)]
          simp
        · simp [h]

def Srt (env : Env) : Prop := env.Pairwise fun p q => p.1 < q.1
theorem Srt.nil : Srt [] := List.Pairwise.nil
theorem Srt.filter {env : Env} (h : Srt env) (f : Nat × V → Bool) : Srt (env.filter f) := List.Pairwise.filter f h
theorem put_mem {n : Nat} {x : V} {env : Env} {p : Nat × V} (h : p ∈ put n x env) : p = (n, x) ∨ p ∈ env := by
  induction env with
  | nil => simp [put] at h; exact .inl h
  | cons q env ih =>
    simp only [put] at h
    split at h
    · rcases List.mem_cons.1 h with h | h
      · exact .inl h
      · exact .inr h
    · split at h
      · rcases List.mem_cons.1 h with h | h
        · exact .inl h
        · exact .inr (List.mem_cons_of_mem _ h)
      · rcases List.mem_cons.1 h with h | h
        · exact .inr (h ▸ List.mem_cons_self ..)
        · rcases ih h with h | h
          · exact .inl h
          · exact .inr (List.mem_cons_of_mem _ h)
theorem Srt.put {env : Env} (h : Srt env) (n : Nat) (x : V) : Srt (put n x env) := by
  induction env with
  | nil => simp [VM.put, Srt]
  | cons q env ih =>
    have h' := List.pairwise_cons.1 h
    simp only [VM.put]
    split
    · rename_i hlt
      refine List.pairwise_cons.2 ⟨fun p hp => ?_, h⟩
      rcases List.mem_cons.1 hp with rfl | hp
      · exact hlt
      · exact Nat.lt_trans hlt (h'.1 p hp)
    · split
      · rename_i h1 h2
        subst h2
        exact List.pairwise_cons.2 ⟨h'.1, h'.2⟩
      · rename_i h1 h2
        refine List.pairwise_cons.2 ⟨fun p hp => ?_, ih h'.2⟩
        rcases put_mem hp with rfl | hp
        · show q.1 < n; omega
        · exact h'.1 p hp
theorem get_mem {n : Nat} {x : V} : ∀ {env : Env}, get n env = some x → (n, x) ∈ env
  | p :: env, h => by
    simp only [get] at h
    split at h
    · rename_i hn; cases h; subst hn; exact List.mem_cons_self ..
    · exact List.mem_cons_of_mem _ (get_mem h)
theorem mem_get {n : Nat} {x : V} : ∀ {env : Env}, Srt env → (n, x) ∈ env → get n env = some x
  | p :: env, hs, h => by
    have hs' := List.pairwise_cons.1 hs
    simp only [get]
    rcases List.mem_cons.1 h with h | h
    · subst h; simp
    · have := hs'.1 _ h
      simp only at this
      rw [if_neg (by omega)]
      exact mem_get hs'.2 h
theorem get_filter {env : Env} (hs : Srt env) (f : Nat × V → Bool) (m : Nat) : get m (env.filter f) = (get m env).bind fun x => if f (m, x) then some x else none := by
  cases h : get m env with
  | none =>
    cases h2 : get m (env.filter f) with
    | none => rfl
    | some x =>
      have := mem_get hs (List.mem_filter.1 (get_mem h2)).1
      rw [h] at this; cases this
  | some x =>
    simp only [Option.bind_some]
    split
    · rename_i hf
      exact mem_get (hs.filter f) (List.mem_filter.2 ⟨get_mem h, hf⟩)
    · rename_i hf
      cases h2 : get m (env.filter f) with
      | none => rfl
      | some y =>
        obtain ⟨h3, h4⟩ := List.mem_filter.1 (get_mem h2)
        have := mem_get hs h3
        rw [h] at this; cases this
        exact absurd h4 hf
theorem get_purge {env : Env} (hs : Srt env) (n m : Nat) : get m (purge n env) = (get m env).bind fun x => if x.names = some n then none else some x := by
  unfold purge
  rw [get_filter hs]
  cases get m env with
  | none => rfl
  | some x => simp only [Option.bind_some]; by_cases h : x.names = some n <;> simp [h]
theorem get_del {env : Env} (hs : Srt env) (n m : Nat) : get m (del n env) = if m = n then none else get m env := by
  unfold del
  rw [get_filter hs]
  cases get m env with
  | none => simp
  | some x => simp only [Option.bind_some]; by_cases h : m = n <;> simp [h]
theorem Srt.put' {env : Env} (h : Srt env) (n : Nat) (x : V) : Srt (put' n x env) := by
  unfold VM.put'
  split
  · exact h.put n x
  · exact (h.filter _).put n x
theorem get_put' {env : Env} (hs : Srt env) (n m : Nat) (x : V) : get m (put' n x env) = if m = n then some x else match get n env with
    | none => get m env
    | some _ => (get m env).bind fun y => if y.names = some n then none else some y := by
  unfold VM.put'
  cases h : get n env with
  | none => simp only [get_put]
  | some y => simp only [get_put, get_purge hs]
end Go.VM
/-
  Slots and the frame: what is kept when the world grows, and when a slot is written. No program is named here.
-/
namespace Go.VM
open Go.RowKit
variable [Glob]

section
variable {P : Program} {Im : Nat → Prop} {w w' : World} {base : Nat} {env : Env} {T T' : Tm}

theorem OwnS.move {e : TypeId} {es : List V} {v : Value} (h : OwnS P Im w base e es v) {Im' : Nat → Prop} (hI : ∀ b, Im b → Im' b) (hw : ∀ b, b < w.heap.size → w'.heap[b]? = w.heap[b]?) (hIm : ∀ b, Im b → b < w.heap.size) : OwnS P Im' w' base e es v := by
  obtain ⟨vs, ⟨hl, hv⟩, hk, h1, hr⟩ := h
  refine ⟨vs, ⟨hl, ?_⟩, hk, h1, hr.move hI fun p hp => World.cell?_of_block (hw _ (hIm _ hp))⟩
  rcases hv with h | ⟨g, cap, cur, h1, h2, hh, h3⟩
  · exact .inl h
  · exact .inr ⟨g, cap, cur, h1, h2, (hw g (Array.getElem?_eq_some_iff.1 hh).1).trans hh, h3⟩
theorem BoxS.move {cs : List V} {v : Value} (h : BoxS Im w base cs v) {Im' : Nat → Prop} (hI : ∀ b, Im b → Im' b) (hw : ∀ b, b < w.heap.size → w'.heap[b]? = w.heap[b]?) (hIm : ∀ b, Im b → b < w.heap.size) : BoxS Im' w' base cs v := by
  obtain ⟨g, vs, ty, h1, h2, hh, h3, hr⟩ := h
  exact ⟨g, vs, ty, h1, h2, (hw g (Array.getElem?_eq_some_iff.1 hh).1).trans hh, h3, hr.move hI fun p hp => World.cell?_of_block (hw _ (hIm _ hp))⟩
theorem MapS.move {ks vs : List V} {v : Value} (h : MapS w base ks vs v) (hw : ∀ b, b < w.heap.size → w'.heap[b]? = w.heap[b]?) : MapS w' base ks vs v := by
  obtain ⟨g, es, clock, h1, h2, hh, h3⟩ := h
  exact ⟨g, es, clock, h1, h2, (hw g (Array.getElem?_eq_some_iff.1 hh).1).trans hh, h3⟩
theorem Res1.move {v : Value} {x : V} (h : Res1 P Im w base v x) {Im' : Nat → Prop} (hI : ∀ b, Im b → Im' b) (hN : x.isOwn = true → ∀ g, blkOf v = some g → ¬ Im' g) (hw : ∀ b, b < w.heap.size → w'.heap[b]? = w.heap[b]?) (hIm : ∀ b, Im b → b < w.heap.size) : Res1 P Im' w' base v x := by
  cases x with
  | ow e es => exact ⟨h.1.move hI hw hIm, hN rfl⟩
  | bx cs => exact ⟨h.1.move hI hw hIm, hN rfl⟩
  | mp ks vs => exact ⟨h.1.move hw, hN rfl⟩
  | al n => exact h
  | pe a b c d => exact h
  | pb a b c => exact h
  | t ys => exact h
  | ud => exact h
  | _ => exact Rep.move h hI fun p hp => World.cell?_of_block (hw _ (hIm _ hp))
theorem Ent.move {u : Value} {x : V} (h : Ent P Im w base env T u x) {Im' : Nat → Prop} (hI : ∀ b, Im b → Im' b) (hN : x.isOwn = true → ∀ g, blkOf u = some g → ¬ Im' g)
    (hNt : ∀ ys us, x = .t ys → u = .tuple us → ∀ (j : Nat) y u, ys[j]? = some y → us[j]? = some u → y.isOwn = true → ∀ g, blkOf u = some g → ¬ Im' g)
    (hw : ∀ b, b < w.heap.size → w'.heap[b]? = w.heap[b]?) (hIm : ∀ b, Im b → b < w.heap.size) : Ent P Im' w' base env T u x := by
  by_cases hs : x.smp = true
  · rw [Ent.res1 hs] at h ⊢
    exact h.move hI hN hw hIm
  cases x with
  | t ys =>
    obtain ⟨us, hu, hl, hh⟩ := h
    refine ⟨us, hu, hl, fun j v y hj hy => ?_⟩
    rcases hh j v y hj hy with h | h
    · exact .inl h
    · exact .inr (h.move hI (fun ho g hg => hNt ys us.toArray rfl hu j y v hy (by simpa using hj) ho g hg) hw hIm)
  | al n => exact h
  | pe a b c d => exact h
  | pb a b c => exact h
  | ud => exact h
  | _ => exact absurd rfl hs

theorem Ents.move (h : Ents P Im w base env T) {Im' : Nat → Prop} (hI : ∀ b, Im b → Im' b) (hN : ∀ n c g, Owns env T n c g → ¬ Im' g) (hw : ∀ b, b < w.heap.size → w'.heap[b]? = w.heap[b]?) (hIm : ∀ b, Im b → b < w.heap.size) : Ents P Im' w' base env T := by
  refine ⟨fun n x hx => ?_, h.closed, h.apart, h.glob.move hI fun p hp => by simp only [World.cell?, hw _ (hIm _ hp)]⟩
  obtain ⟨u, hu, he⟩ := h.ent n x hx
  refine ⟨u, hu, he.move hI (fun ho g hg => hN n none g ⟨x, u, hx, ho, hu, hg⟩) (fun ys us hys hus j y v hy hv ho g hg => ?_) hw hIm⟩
  subst hys; subst hus
  exact hN n (some j) g ⟨ys, us.toList, y, v, hx, by simpa using hu, hy, ho, by simpa using hv, hg⟩
theorem Owns.lt (h : Ents P Im w base env T) {n : Nat} {c : Option Nat} {g : Nat} (ho : Owns env T n c g) : g < w.heap.size ∧ base ≤ g ∧ ¬ Im g := by
  have key : ∀ (u : Value) (x : V), x.isOwn = true → blkOf u = some g → Res1 P Im w base u x → g < w.heap.size ∧ base ≤ g ∧ ¬ Im g := by
    intro u x hx hg hr
    cases x with
    | ow e es =>
      obtain ⟨⟨vs, ⟨_, hv⟩, _⟩, hn⟩ := hr
      rcases hv with ⟨rfl, _⟩ | ⟨g', cap, cur, rfl, hb, hh, _⟩
      · simp [blkOf] at hg
      · simp only [blkOf, Option.some.injEq] at hg
        subst hg
        exact ⟨(Array.getElem?_eq_some_iff.1 hh).1, hb, hn _ rfl⟩
    | bx cs =>
      obtain ⟨⟨g', vs, ty, rfl, hb, hh, _⟩, hn⟩ := hr
      simp only [blkOf, Option.some.injEq] at hg
      subst hg
      exact ⟨(Array.getElem?_eq_some_iff.1 hh).1, hb, hn _ rfl⟩
    | mp ks vs =>
      obtain ⟨⟨g', es, c, rfl, hb, hh, _⟩, hn⟩ := hr
      simp only [blkOf, Option.some.injEq] at hg
      subst hg
      exact ⟨(Array.getElem?_eq_some_iff.1 hh).1, hb, hn _ rfl⟩
    | _ => simp [V.isOwn] at hx
  cases c with
  | none =>
    obtain ⟨x, u, hx, hown, hu, hg⟩ := ho
    obtain ⟨u', hu', he⟩ := h.ent n x hx
    rw [hu] at hu'; cases hu'
    refine key u x hown hg ?_
    cases x <;> first | exact he | (simp [V.isOwn] at hown; done)
  | some j =>
    obtain ⟨ys, us, y, u, hx, hT, hy, hown, hu, hg⟩ := ho
    obtain ⟨u', hu', us', he1, he2, he3⟩ := h.ent n _ hx
    rw [hT] at hu'; cases hu'
    have : us' = us := by simpa using he1.symm
    subst this
    rcases he3 j u y hu hy with h1 | h1
    · subst h1; simp [V.isOwn] at hown
    · exact key u y hown hg h1

theorem Ents.congr (h : Ents P Im w base env T) (hT : ∀ n x, get n env = some x → T' n = T n) : Ents P Im w base env T' := by
  have ho : ∀ n c g, Owns env T' n c g → Owns env T n c g := by
    intro n c g h
    cases c with
    | none => obtain ⟨x, u, hx, h1, h2, h3⟩ := h; exact ⟨x, u, hx, h1, (hT n x hx) ▸ h2, h3⟩
    | some j => obtain ⟨ys, us, y, u, hx, h1, h2⟩ := h; exact ⟨ys, us, y, u, hx, (hT n _ hx) ▸ h1, h2⟩
  refine ⟨fun n x hx => ?_, h.closed, fun n c n' c' g h1 h2 => h.apart n c n' c' g (ho _ _ _ h1) (ho _ _ _ h2), h.glob⟩
  obtain ⟨u, hu, he⟩ := h.ent n x hx
  refine ⟨u, (hT n x hx).trans hu, ?_⟩
  cases x with
  | al m => obtain ⟨y, hy, _⟩ := h.closed n _ m hx rfl; exact (hT m y hy).trans he
  | pe m i off sz =>
    obtain ⟨y, hy, _⟩ := h.closed n _ m hx rfl
    obtain ⟨ad, l, c, k, h1, h2⟩ := he
    exact ⟨ad, l, c, k, (hT m y hy).trans h1, h2⟩
  | pb m off sz =>
    obtain ⟨y, hy, _⟩ := h.closed n _ m hx rfl
    obtain ⟨ad, h1, h2⟩ := he
    exact ⟨ad, (hT m y hy).trans h1, h2⟩
  | _ => exact he

theorem Ents.sub {env' : Env} (h : Ents P Im w base env T) (hs : ∀ n x, get n env' = some x → get n env = some x) (hc : ∀ n x m, get n env' = some x → x.names = some m → ∃ y, get m env' = some y ∧ y.names = none) : Ents P Im w base env' T := by
  have ho : ∀ n c g, Owns env' T n c g → Owns env T n c g := by
    intro n c g h
    cases c with
    | none => obtain ⟨x, u, hx, h⟩ := h; exact ⟨x, u, hs n x hx, h⟩
    | some j => obtain ⟨ys, us, y, u, hx, h⟩ := h; exact ⟨ys, us, y, u, hs n _ hx, h⟩
  refine ⟨fun n x hx => ?_, hc, fun n c n' c' g h1 h2 => h.apart n c n' c' g (ho _ _ _ h1) (ho _ _ _ h2), h.glob⟩
  obtain ⟨u, hu, he⟩ := h.ent n x (hs n x hx)
  refine ⟨u, hu, ?_⟩
  cases x with
  | pe m i off sz =>
    obtain ⟨ad, l, c, k, h1, h2, h3⟩ := he
    exact ⟨ad, l, c, k, h1, h2, fun y es hy => h3 y es (hs m y hy)⟩
  | _ => exact he

theorem Ents.put (h : Ents P Im w base env T) (hs : Srt env) (n : Nat) (x : V) (u : Value) (hT : T' n = some u) (hT' : ∀ m y, m ≠ n → get m env = some y → T' m = T m)
    (hx : Ent P Im w base (put' n x env) T' u x) (hnm : ∀ m, x.names = some m → m ≠ n ∧ ∃ y, get m env = some y ∧ y.names = none)
    (hown : ∀ c g, Owns (put' n x env) T' n c g → ∀ n' c', n' ≠ n → ¬ Owns env T n' c' g) (hown' : ∀ c c' g, Owns (put' n x env) T' n c g → Owns (put' n x env) T' n c' g → c = c') : Ents P Im w base (put' n x env) T' := by
  have hget : ∀ m y, m ≠ n → get m (put' n x env) = some y → get m env = some y ∧ y.names ≠ some n := by
    intro m y hm hy
    rw [get_put' hs, if_neg hm] at hy
    cases hn : get n env with
    | none =>
      rw [hn] at hy
      refine ⟨hy, fun e => ?_⟩
      obtain ⟨z, hz, _⟩ := h.closed m y n hy e
      rw [hn] at hz; cases hz
    | some z =>
      rw [hn] at hy
      simp only at hy
      cases hm' : get m env with
      | none => rw [hm'] at hy; cases hy
      | some y' =>
        rw [hm'] at hy
        simp only [Option.bind_some] at hy
        split at hy
        · cases hy
        · cases hy; exact ⟨rfl, ‹_›⟩
  have hget' : ∀ m y, m ≠ n → get m env = some y → y.names ≠ some n → get m (put' n x env) = some y := by
    intro m y hm hy hne
    rw [get_put' hs, if_neg hm]
    cases hn : get n env with
    | none => exact hy
    | some z => simp only [hy, Option.bind_some]; rw [if_neg hne]
  have howns : ∀ m c g, m ≠ n → Owns (put' n x env) T' m c g → Owns env T m c g := by
    intro m c g hm ho
    cases c with
    | none =>
      obtain ⟨y, v, hy, h1, h2, h3⟩ := ho
      have := (hget m y hm hy).1
      exact ⟨y, v, this, h1, (hT' m y hm this) ▸ h2, h3⟩
    | some j =>
      obtain ⟨ys, us, y, v, hy, h1, h2⟩ := ho
      have := (hget m _ hm hy).1
      exact ⟨ys, us, y, v, this, (hT' m _ hm this) ▸ h1, h2⟩
  refine ⟨fun m y hy => ?_, fun m y k hy hk => ?_, fun m c m' c' g h1 h2 => ?_, h.glob⟩
  · by_cases hm : m = n
    · subst hm
      rw [get_put' hs, if_pos rfl] at hy
      cases hy
      exact ⟨u, hT, hx⟩
    · obtain ⟨hy', hne⟩ := hget m y hm hy
      obtain ⟨v, hv, he⟩ := h.ent m y hy'
      refine ⟨v, (hT' m y hm hy').trans hv, ?_⟩
      cases y with
      | al k =>
        have hkn : k ≠ n := fun e => hne (by rw [e]; rfl)
        obtain ⟨z, hz, _⟩ := h.closed m _ k hy' rfl
        exact (hT' k z hkn hz).trans he
      | pe k i off sz =>
        have hkn : k ≠ n := fun e => hne (by rw [e]; rfl)
        obtain ⟨z, hz, _⟩ := h.closed m _ k hy' rfl
        obtain ⟨ad, l, c, kk, h1, h2, h3⟩ := he
        exact ⟨ad, l, c, kk, (hT' k z hkn hz).trans h1, h2, fun z' es hz' => h3 z' es (hget k z' hkn hz').1⟩
      | pb k off sz =>
        have hkn : k ≠ n := fun e => hne (by rw [e]; rfl)
        obtain ⟨z, hz, _⟩ := h.closed m _ k hy' rfl
        obtain ⟨ad, h1, h2⟩ := he
        exact ⟨ad, (hT' k z hkn hz).trans h1, h2⟩
      | _ => exact he
  · by_cases hm : m = n
    · subst hm
      rw [get_put' hs, if_pos rfl] at hy
      cases hy
      obtain ⟨hkn, z, hz, hzn⟩ := hnm k hk
      exact ⟨z, hget' k z hkn hz (by rw [hzn]; simp), hzn⟩
    · obtain ⟨hy', hne⟩ := hget m y hm hy
      have hkn : k ≠ n := fun e => hne (by rw [← e]; exact hk)
      obtain ⟨z, hz, hzn⟩ := h.closed m y k hy' hk
      exact ⟨z, hget' k z hkn hz (by rw [hzn]; simp), hzn⟩
  · by_cases hm : m = n
    · by_cases hm' : m' = n
      · subst hm; subst hm'; exact ⟨rfl, hown' _ _ _ h1 h2⟩
      · subst hm; exact absurd (howns m' c' g hm' h2) (hown c g h1 m' c' hm')
    · by_cases hm' : m' = n
      · subst hm'; exact absurd (howns m c g hm h1) (hown c' g h2 m c hm)
      · exact h.apart m c m' c' g (howns m c g hm h1) (howns m' c' g hm' h2)
end
end Go.VM
/-
  The frame's invariant, and what a slot reads as. No program is named here.
-/
namespace Go.VM
open Go.RowKit
variable [Glob]

structure FI (P : Program) (nt : Nat) (keep : List Nat) (S : Nat → Prop) (base : Nat) (w0 : World) (env : Env) (a : Act) (w : World) : Prop where
  srt : Srt env
  size : a.tmps.size = nt
  defers : a.defers = []
  below : Below base w0 w
  kept : ∀ b, S b → w.heap[b]? = w0.heap[b]?
  bsz : base ≤ w.heap.size
  keys : ∀ n x, get n env = some x → n ∈ keep ∧ n < nt
  ents : ∃ Im : Nat → Prop, (∀ b, S b → Im b) ∧ (∀ b, Im b → (S b ∨ base ≤ b) ∧ b < w.heap.size) ∧ Ents P Im w base env (fun n => a.tmps[n]?)

section
variable {P : Program} {Im : Nat → Prop} {w w' : World} {base : Nat} {env : Env} {T T' : Tm}

theorem rd_some {x v : V} (h : rd x = some v) : x.smp = true ∧ v = frz x := by
  cases x <;> simp_all [rd, V.smp]
theorem look_slot (h : Ents P Im w base env T) (hIm : ∀ b, Im b → b < w.heap.size) {n : Nat} {x v : V} (hx : get n env = some x) (hv : rd x = some v) : ∃ u, T n = some u ∧ Rep (All w) w u v := by
  obtain ⟨hs, rfl⟩ := rd_some hv
  obtain ⟨u, hu, he⟩ := h.ent n x hx
  rw [Ent.res1 hs] at he
  exact ⟨u, hu, he.frz hIm fun b _ hb => hb⟩
theorem sub_rep {S : Nat → Prop} {ad : Addr} {vs : List Value} {cs r : List V} {off n : Nat} (hS : S ad.block) (hc : ∀ x ∈ cs, x.cell = true) (hr : Reps S w vs cs) (hu : ∀ (j : Nat) u, vs[j]? = some u → w.cell? (ad.add j) = some u) (hs : sub cs off n = some r) :
    Rep S w (.pointer (some (ad.add off))) (.r r) := by
  have hrs := hr.sub hs
  obtain ⟨_, rfl⟩ := sub_some hs
  refine .r _ _ _ (by rw [add_block]; exact hS) (fun x hx => hc x (List.mem_of_mem_drop (List.mem_of_mem_take hx))) hrs.1 (fun j u hj => ?_) hrs.2
  rw [List.getElem?_take] at hj
  split at hj
  · rw [List.getElem?_drop] at hj
    rw [add_add]; exact hu _ u hj
  · cases hj
theorem elem_rep {S : Nat → Prop} {ad : Addr} {l c k i off n : Nat} {es : List V} {e : V} {r : List V} (h : Rep S w (.slice (some ad) l c) (.l es)) (hk : ∀ e ∈ es, e.cells.length = k) (he : es[i]? = some e) (hs : sub e.cells off n = some r) :
    Rep S w (.pointer (some (ad.add (i * k + off)))) (.r r) := by
  obtain ⟨a, c', k', vs, hv, _, hcell, hr, hc, hd⟩ := h.slice
  rcases hd with rfl | ⟨ad', rfl, hS, hu⟩
  · simp at he
  · simp only [Value.slice.injEq, Option.some.injEq] at hv
    obtain ⟨rfl, rfl, rfl⟩ := hv
    rw [← flatc_at hk he] at hs
    have h1 : Rep S w (.pointer (some ((ad.add (i * k)).add off))) (.r r) := sub_rep (vs := (vs.drop (i * k)).take k) (by rw [add_block]; exact hS) (fun x hx => hcell x (List.mem_of_mem_drop (List.mem_of_mem_take hx))) ((hr.drop _).take _) (fun j u hj => by
      rw [List.getElem?_take] at hj
      split at hj
      · rw [List.getElem?_drop] at hj
        rw [add_add]; exact hu _ u hj
      · cases hj) hs
    rwa [add_add] at h1

theorem look_sound (h : Ents P Im w base env T) (hIm : ∀ b, Im b → b < w.heap.size) {n : Nat} {v : V} (hv : look env n = some v) : ∃ u, T n = some u ∧ Rep (All w) w u v := by
  unfold look at hv
  cases hx : get n env with
  | none => rw [hx] at hv; cases hv
  | some x =>
    rw [hx] at hv
    by_cases hs : x.names = none
    · refine look_slot h hIm hx ?_
      cases x <;> first | exact hv | (simp [V.names] at hs; done)
    · obtain ⟨u, hu, he⟩ := h.ent n x hx
      refine ⟨u, hu, ?_⟩
      cases x with
      | al m =>
        simp only at hv
        cases hm : get m env with
        | none => rw [hm] at hv; cases hv
        | some y =>
          rw [hm] at hv
          obtain ⟨u', hu', hr⟩ := look_slot h hIm hm hv
          have : T m = some u := he
          rw [this] at hu'; cases hu'
          exact hr
      | pe m i off sz =>
        simp only at hv
        cases hm : get m env with
        | none => rw [hm] at hv; cases hv
        | some y =>
          rw [hm] at hv
          simp only [Option.bind_some] at hv
          cases hy : rd y with
          | none => rw [hy] at hv; cases hv
          | some z =>
            rw [hy] at hv
            cases z with
            | l es =>
              simp only at hv
              cases hei : es[i]? with
              | none => rw [hei] at hv; cases hv
              | some e =>
                rw [hei] at hv
                simp only [Option.bind_some] at hv
                cases hsb : sub e.cells off sz with
                | none => rw [hsb] at hv; cases hv
                | some r =>
                  rw [hsb] at hv
                  simp only [Option.map_some, Option.some.injEq] at hv
                  subst hv
                  obtain ⟨ad, l, c, k, h1, rfl, h3⟩ := he
                  obtain ⟨u', hu', hr⟩ := look_slot h hIm hm hy
                  rw [h1] at hu'; cases hu'
                  exact elem_rep hr (h3 y es hm (rd_some hy).2.symm) hei hsb
            | _ => cases hv
      | pb m off sz =>
        simp only at hv
        cases hm : get m env with
        | none => rw [hm] at hv; cases hv
        | some y =>
          rw [hm] at hv
          simp only [Option.bind_some] at hv
          cases hy : rd y with
          | none => rw [hy] at hv; cases hv
          | some z =>
            rw [hy] at hv
            cases z with
            | r cs =>
              simp only at hv
              cases hsb : sub cs off sz with
              | none => rw [hsb] at hv; cases hv
              | some r =>
                rw [hsb] at hv
                simp only [Option.map_some, Option.some.injEq] at hv
                subst hv
                obtain ⟨ad, h1, rfl⟩ := he
                obtain ⟨u', hu', hr⟩ := look_slot h hIm hm hy
                rw [h1] at hu'; cases hu'
                obtain ⟨ad', vs, hv', hS, hc, hr, hcell⟩ := hr.ptr
                simp only [Value.pointer.injEq, Option.some.injEq] at hv'
                subst hv'
                exact sub_rep hS hc hr hcell hsb
            | _ => cases hv
      | _ => simp [V.names] at hs
end
end Go.VM
/-
  A region in mode Q does what the evaluator says. No program is named here.
-/
namespace Go.VM
variable [Glob]
open Go.RowKit

section
variable {P : Program} {o : Orc} {env : Env} {draw : Bool} {ops : List Oper}

theorem qgo_cons {op : Oper} {r : List Oper} {defs dF : List (Tmp × Nat)} {is iF : List QI} (h : qgo P draw ops (op :: r) defs is = some (dF, iF)) :
    ∃ d q, op.dst = some d ∧ guardOk ops defs op.guard = true ∧ qnode P draw defs is op = some q ∧ srcsOk is q = true ∧ qgo P draw ops r ((d, is.length) :: defs) (is ++ [q]) = some (dF, iF) := by
  simp only [qgo] at h
  cases hd : op.dst with
  | none => rw [hd] at h; cases h
  | some d =>
    rw [hd] at h
    simp only at h
    split at h
    · cases hq : qnode P draw defs is op with
      | none => rw [hq] at h; cases h
      | some q =>
        rw [hq] at h
        simp only [Option.bind_some] at h
        split at h
        · exact ⟨d, q, rfl, ‹_›, rfl, ‹_›, h⟩
        · cases h
    · cases h
theorem qgo_prefix : ∀ (r : List Oper) (defs dF : List (Tmp × Nat)) (is iF : List QI), qgo P draw ops r defs is = some (dF, iF) → ∃ tl, iF = is ++ tl ∧ tl.length = r.length
  | [], _, _, is, iF, h => by simp only [qgo, Option.some.injEq, Prod.mk.injEq] at h; exact ⟨[], by simp [h.2], rfl⟩
  | op :: r, defs, dF, is, iF, h => by
    obtain ⟨d, q, _, _, _, _, h⟩ := qgo_cons h
    obtain ⟨tl, h1, h2⟩ := qgo_prefix r _ _ _ _ h
    exact ⟨q :: tl, by rw [h1]; simp, by simp [h2]⟩
theorem defOf_cons {d : Tmp} {j : Nat} {defs : List (Tmp × Nat)} (t : Tmp) : defOf ((d, j) :: defs) t = if d = t then some j else defOf defs t := rfl
theorem qgo_shape : ∀ (r : List Oper) (defs dF : List (Tmp × Nat)) (is iF : List QI), qgo P draw ops r defs is = some (dF, iF) → (∀ t j, defOf defs t = some j → j < is.length) → (∀ (k : Nat) q, is[k]? = some q → Shape iF q) →
    ∀ (k : Nat) q, iF[k]? = some q → Shape iF q
  | [], _, _, is, iF, h, _, hs => by simp only [qgo, Option.some.injEq, Prod.mk.injEq] at h; rw [← h.2] at hs ⊢; exact hs
  | op :: r, defs, dF, is, iF, h, hlt, hs => by
    obtain ⟨d, q, _, _, hq, _, hgo⟩ := qgo_cons h
    obtain ⟨tl, h1, _⟩ := qgo_prefix _ _ _ _ _ h
    have hpre : ∀ j, j < is.length → is[j]? = iF[j]? := fun j hj => by rw [h1, List.getElem?_append_left hj]
    refine qgo_shape r _ _ _ _ hgo (fun t j hd => ?_) fun k q' hk => ?_
    · rw [defOf_cons] at hd
      split at hd
      · cases hd; simp
      · have := hlt t j hd; simp; omega
    · by_cases hk' : k < is.length
      · rw [List.getElem?_append_left hk'] at hk; exact hs k q' hk
      · rw [List.getElem?_append_right (by omega)] at hk
        cases hz : k - is.length with
        | zero =>
          rw [hz] at hk
          simp only [List.getElem?_cons_zero, Option.some.injEq] at hk
          subst hk
          exact (qnode_shape hlt hpre hq).1
        | succ m => rw [hz] at hk; simp at hk

section
variable {isF : List QI} {a0 : Act} {E R : Nat → Prop} {S : Nat → Prop} {defs : List (Tmp × Nat)} {is : List QI} {a : Act} {w : World}

theorem bool_of_rep {u : Value} {v : V} (h : Rep S w u v) (b : Bool) : u = .bool b ↔ v = .b b := by
  cases h <;> simp

theorem wanted_iff (h : QInvE o env isF a0 E R S defs is a w) (hD : ∀ (i : Nat) q, isF[i]? = some q → GH o env isF q.g → ∃ v, evalX o env q.x = some v) {op : Oper} (hok : guardOk ops defs op.guard = true) (hE : ∀ g b, op.guard = some (g, b) → E g) :
    Region.wanted op (yielded ops.toArray a.tmps) = true ↔ GH o env isF op.guard := by
  unfold Region.wanted
  unfold guardOk at hok
  cases hg : op.guard with
  | none => simp only [true_iff]; exact .top
  | some gb =>
    obtain ⟨g, b⟩ := gb
    rw [hg] at hok
    simp only at hok
    cases hd : (ops[g]?).bind (·.dst) with
    | none => rw [hd] at hok; cases hok
    | some d =>
      rw [hd] at hok
      simp only [beq_iff_eq] at hok
      have h4 := h.2.2.2.2 d
      rw [hok] at h4
      obtain ⟨q, hq, hy, hn⟩ := h4
      have hEg := hE g b hg
      have hlt := (List.getElem?_eq_some_iff.1 hq).1
      have hqF : isF[g]? = some q := (h.2.2.1 g hlt).symm.trans hq
      have hyl : yielded ops.toArray a.tmps g = match a.tmps[d]? with | some (.bool b) => some b | _ => none := by
        unfold yielded
        simp only [List.getElem?_toArray]
        rw [hd]; rfl
      simp only [hyl]
      by_cases hgh : GH o env isF q.g
      · obtain ⟨v, hv⟩ := hD g q hqF hgh
        obtain ⟨u, hu, hr⟩ := hy hEg hgh v hv
        rw [hu]
        constructor
        · intro hw
          have : u = .bool b := by
            cases u <;> simp_all
          exact .dn g b q hqF hgh (by rw [hv, (bool_of_rep hr b).1 this])
        · intro hw
          cases hw with
          | dn _ _ q2 h2 hg2 hv2 =>
            rw [hqF] at h2; cases h2
            rw [hv] at hv2
            have : v = .b b := by simpa using hv2
            have := (bool_of_rep hr b).2 this
            subst this
            simp
      · have := hn hEg hgh
        constructor
        · intro hw
          exfalso
          cases hu : a.tmps[d]? with
          | none => rw [hu] at hw; simp at hw
          | some u =>
            rw [hu] at hw
            cases u <;> simp_all
        · intro hw
          cases hw with
          | dn _ _ q2 h2 hg2 hv2 =>
            rw [hqF] at h2; cases h2
            exact absurd hg2 hgh

theorem QInv.step (h : QInv o env isF a0 S defs is a w) {d : Tmp} {q : QI} (hd : d < a0.tmps.size) (hq : isF[is.length]? = some q) (u : Value) (hu : GH o env isF q.g → ∀ v, evalX o env q.x = some v → Rep S w u v) (hn : ¬ GH o env isF q.g → ∀ b, u ≠ .bool b) :
    QInv o env isF a0 S ((d, is.length) :: defs) (is ++ [q]) (a.put (some d) u) w := by
  obtain ⟨h1, h2, h3, h3', h4⟩ := h
  refine ⟨by simpa [Act.put] using h1, h2, fun j hj => ?_, ?_, fun t => ?_⟩
  · by_cases hj' : j < is.length
    · rw [List.getElem?_append_left hj']; exact h3 j hj'
    · have : j = is.length := by simp at hj; omega
      subst this
      rw [List.getElem?_append_right (Nat.le_refl _)]; simp [hq]
  · have := (List.getElem?_eq_some_iff.1 hq).1
    simp; omega
  · rw [defOf_cons]
    by_cases ht : d = t
    · subst ht
      rw [if_pos rfl]
      have hget : (a.put (some d) u).tmps[d]? = some u := by simp [Act.put, h1, hd]
      refine ⟨q, by simp, fun _ hg v hv => ⟨u, hget, hu hg v hv⟩, fun _ hg b => ?_⟩
      rw [hget]
      intro e
      exact hn hg b (by simpa using e)
    · rw [if_neg ht]
      have hget : (a.put (some d) u).tmps[t]? = a.tmps[t]? := by simp [Act.put, ht]
      have := h4 t
      split at this
      · rename_i hd'; simp only [hget]; exact this
      · rename_i j hd'
        simp only [hget]
        obtain ⟨q', hq', hy, hn'⟩ := this
        exact ⟨q', by rw [List.getElem?_append_left (List.getElem?_eq_some_iff.1 hq').1]; exact hq', hy, hn'⟩
end
end
end Go.VM
