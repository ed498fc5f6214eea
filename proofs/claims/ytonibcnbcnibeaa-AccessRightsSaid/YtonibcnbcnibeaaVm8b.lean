/-
  Slots and the frame: what is kept when the world grows, and when a slot is written. No program is named here.
-/
import Derived.Test.YtonibcnbcnibeaaVm8a
namespace Go.VM
open Go.RowKit

section
variable {P : Program} {Im : Nat → Prop} {w w' : World} {base : Nat} {env : Env} {T T' : Tm}

theorem OwnS.move {e : TypeId} {es : List V} {v : Value} (h : OwnS P Im w base e es v) {Im' : Nat → Prop} (hI : ∀ b, Im b → Im' b) (hw : ∀ b, b < w.heap.size → w'.heap[b]? = w.heap[b]?) (hIm : ∀ b, Im b → b < w.heap.size) : OwnS P Im' w' base e es v := by
  obtain ⟨vs, ⟨hl, hv⟩, hk, h1, hr⟩ := h
  refine ⟨vs, ⟨hl, ?_⟩, hk, h1, hr.move hI fun p hp => World.cell?_of_block (hw _ (hIm _ hp))⟩
  rcases hv with h | ⟨g, cap, cur, h1, h2, hh, h3⟩
  · exact .inl h
  · exact .inr ⟨g, cap, cur, h1, h2, (hw g (Array.getElem?_eq_some_iff.1 hh).1).trans hh, h3⟩
theorem BoxS.move {cs : List V} {v : Value} (h : BoxS Im w base cs v) {Im' : Nat → Prop} (hI : ∀ b, Im b → Im' b) (hw : ∀ b, b < w.heap.size → w'.heap[b]? = w.heap[b]?) (hIm : ∀ b, Im b → b < w.heap.size) : BoxS Im' w' base cs v := by
  obtain ⟨g, vs, ty, h1, h2, hh, h3, hr⟩ := h
  exact ⟨g, vs, ty, h1, h2, (hw g (Array.getElem?_eq_some_iff.1 hh).1).trans hh, h3, hr.move hI fun p hp => World.cell?_of_block (hw _ (hIm _ hp))⟩
theorem Res1.move {v : Value} {x : V} (h : Res1 P Im w base v x) {Im' : Nat → Prop} (hI : ∀ b, Im b → Im' b) (hN : x.isOwn = true → ∀ g, blkOf v = some g → ¬ Im' g) (hw : ∀ b, b < w.heap.size → w'.heap[b]? = w.heap[b]?) (hIm : ∀ b, Im b → b < w.heap.size) : Res1 P Im' w' base v x := by
  cases x with
  | ow e es => exact ⟨h.1.move hI hw hIm, hN rfl⟩
  | bx cs => exact ⟨h.1.move hI hw hIm, hN rfl⟩
  | al n => exact h
  | pe a b c d => exact h
  | pb a b c => exact h
  | t ys => exact h
  | ud => exact h
  | _ => exact Rep.move h hI fun p hp => World.cell?_of_block (hw _ (hIm _ hp))
theorem Ent.move {u : Value} {x : V} (h : Ent P Im w base env T u x) {Im' : Nat → Prop} (hI : ∀ b, Im b → Im' b) (hN : x.isOwn = true → ∀ g, blkOf u = some g → ¬ Im' g)
    (hNt : ∀ ys us, x = .t ys → u = .tuple us → ∀ (j : Nat) y u, ys[j]? = some y → us[j]? = some u → y.isOwn = true → ∀ g, blkOf u = some g → ¬ Im' g)
    (hw : ∀ b, b < w.heap.size → w'.heap[b]? = w.heap[b]?) (hIm : ∀ b, Im b → b < w.heap.size) : Ent P Im' w' base env T u x := by
  by_cases hs : x.smp = true
  · rw [Ent.res1 hs] at h ⊢
    exact h.move hI hN hw hIm
  cases x with
  | t ys =>
    obtain ⟨us, hu, hl, hh⟩ := h
    refine ⟨us, hu, hl, fun j v y hj hy => ?_⟩
    rcases hh j v y hj hy with h | h
    · exact .inl h
    · exact .inr (h.move hI (fun ho g hg => hNt ys us.toArray rfl hu j y v hy (by simpa using hj) ho g hg) hw hIm)
  | al n => exact h
  | pe a b c d => exact h
  | pb a b c => exact h
  | ud => exact h
  | _ => exact absurd rfl hs

/-- The world grows; what nobody owns may come to be read. -/
theorem Ents.move (h : Ents P Im w base env T) {Im' : Nat → Prop} (hI : ∀ b, Im b → Im' b) (hN : ∀ n c g, Owns env T n c g → ¬ Im' g) (hw : ∀ b, b < w.heap.size → w'.heap[b]? = w.heap[b]?) (hIm : ∀ b, Im b → b < w.heap.size) : Ents P Im' w' base env T := by
  refine ⟨fun n x hx => ?_, h.closed, h.apart⟩
  obtain ⟨u, hu, he⟩ := h.ent n x hx
  refine ⟨u, hu, he.move hI (fun ho g hg => hN n none g ⟨x, u, hx, ho, hu, hg⟩) (fun ys us hys hus j y v hy hv ho g hg => ?_) hw hIm⟩
  subst hys; subst hus
  exact hN n (some j) g ⟨ys, us.toList, y, v, hx, by simpa using hu, hy, ho, by simpa using hv, hg⟩
theorem Owns.lt (h : Ents P Im w base env T) {n : Nat} {c : Option Nat} {g : Nat} (ho : Owns env T n c g) : g < w.heap.size ∧ base ≤ g ∧ ¬ Im g := by
  have key : ∀ (u : Value) (x : V), x.isOwn = true → blkOf u = some g → Res1 P Im w base u x → g < w.heap.size ∧ base ≤ g ∧ ¬ Im g := by
    intro u x hx hg hr
    cases x with
    | ow e es =>
      obtain ⟨⟨vs, ⟨_, hv⟩, _⟩, hn⟩ := hr
      rcases hv with ⟨rfl, _⟩ | ⟨g', cap, cur, rfl, hb, hh, _⟩
      · simp [blkOf] at hg
      · simp only [blkOf, Option.some.injEq] at hg
        subst hg
        exact ⟨(Array.getElem?_eq_some_iff.1 hh).1, hb, hn _ rfl⟩
    | bx cs =>
      obtain ⟨⟨g', vs, ty, rfl, hb, hh, _⟩, hn⟩ := hr
      simp only [blkOf, Option.some.injEq] at hg
      subst hg
      exact ⟨(Array.getElem?_eq_some_iff.1 hh).1, hb, hn _ rfl⟩
    | _ => simp [V.isOwn] at hx
  cases c with
  | none =>
    obtain ⟨x, u, hx, hown, hu, hg⟩ := ho
    obtain ⟨u', hu', he⟩ := h.ent n x hx
    rw [hu] at hu'; cases hu'
    refine key u x hown hg ?_
    cases x <;> first | exact he | (simp [V.isOwn] at hown; done)
  | some j =>
    obtain ⟨ys, us, y, u, hx, hT, hy, hown, hu, hg⟩ := ho
    obtain ⟨u', hu', us', he1, he2, he3⟩ := h.ent n _ hx
    rw [hT] at hu'; cases hu'
    have : us' = us := by simpa using he1.symm
    subst this
    rcases he3 j u y hu hy with h1 | h1
    · subst h1; simp [V.isOwn] at hown
    · exact key u y hown hg h1

theorem Ents.congr (h : Ents P Im w base env T) (hT : ∀ n x, get n env = some x → T' n = T n) : Ents P Im w base env T' := by
  have ho : ∀ n c g, Owns env T' n c g → Owns env T n c g := by
    intro n c g h
    cases c with
    | none => obtain ⟨x, u, hx, h1, h2, h3⟩ := h; exact ⟨x, u, hx, h1, (hT n x hx) ▸ h2, h3⟩
    | some j => obtain ⟨ys, us, y, u, hx, h1, h2⟩ := h; exact ⟨ys, us, y, u, hx, (hT n _ hx) ▸ h1, h2⟩
  refine ⟨fun n x hx => ?_, h.closed, fun n c n' c' g h1 h2 => h.apart n c n' c' g (ho _ _ _ h1) (ho _ _ _ h2)⟩
  obtain ⟨u, hu, he⟩ := h.ent n x hx
  refine ⟨u, (hT n x hx).trans hu, ?_⟩
  cases x with
  | al m => obtain ⟨y, hy, _⟩ := h.closed n _ m hx rfl; exact (hT m y hy).trans he
  | pe m i off sz =>
    obtain ⟨y, hy, _⟩ := h.closed n _ m hx rfl
    obtain ⟨ad, l, c, k, h1, h2⟩ := he
    exact ⟨ad, l, c, k, (hT m y hy).trans h1, h2⟩
  | pb m off sz =>
    obtain ⟨y, hy, _⟩ := h.closed n _ m hx rfl
    obtain ⟨ad, h1, h2⟩ := he
    exact ⟨ad, (hT m y hy).trans h1, h2⟩
  | _ => exact he

/-- Fewer slots. -/
theorem Ents.sub {env' : Env} (h : Ents P Im w base env T) (hs : ∀ n x, get n env' = some x → get n env = some x) (hc : ∀ n x m, get n env' = some x → x.names = some m → ∃ y, get m env' = some y ∧ y.names = none) : Ents P Im w base env' T := by
  have ho : ∀ n c g, Owns env' T n c g → Owns env T n c g := by
    intro n c g h
    cases c with
    | none => obtain ⟨x, u, hx, h⟩ := h; exact ⟨x, u, hs n x hx, h⟩
    | some j => obtain ⟨ys, us, y, u, hx, h⟩ := h; exact ⟨ys, us, y, u, hs n _ hx, h⟩
  refine ⟨fun n x hx => ?_, hc, fun n c n' c' g h1 h2 => h.apart n c n' c' g (ho _ _ _ h1) (ho _ _ _ h2)⟩
  obtain ⟨u, hu, he⟩ := h.ent n x (hs n x hx)
  refine ⟨u, hu, ?_⟩
  cases x with
  | pe m i off sz =>
    obtain ⟨ad, l, c, k, h1, h2, h3⟩ := he
    exact ⟨ad, l, c, k, h1, h2, fun y es hy => h3 y es (hs m y hy)⟩
  | _ => exact he

/-- A slot is written; what it holds now owns nothing that another owns. -/
theorem Ents.put (h : Ents P Im w base env T) (hs : Srt env) (n : Nat) (x : V) (u : Value) (hT : T' n = some u) (hT' : ∀ m y, m ≠ n → get m env = some y → T' m = T m)
    (hx : Ent P Im w base (put' n x env) T' u x) (hnm : ∀ m, x.names = some m → m ≠ n ∧ ∃ y, get m env = some y ∧ y.names = none)
    (hown : ∀ c g, Owns (put' n x env) T' n c g → ∀ n' c', n' ≠ n → ¬ Owns env T n' c' g) (hown' : ∀ c c' g, Owns (put' n x env) T' n c g → Owns (put' n x env) T' n c' g → c = c') : Ents P Im w base (put' n x env) T' := by
  have hget : ∀ m y, m ≠ n → get m (put' n x env) = some y → get m env = some y ∧ y.names ≠ some n := by
    intro m y hm hy
    rw [get_put' hs, if_neg hm] at hy
    cases hn : get n env with
    | none =>
      rw [hn] at hy
      refine ⟨hy, fun e => ?_⟩
      obtain ⟨z, hz, _⟩ := h.closed m y n hy e
      rw [hn] at hz; cases hz
    | some z =>
      rw [hn] at hy
      simp only at hy
      cases hm' : get m env with
      | none => rw [hm'] at hy; cases hy
      | some y' =>
        rw [hm'] at hy
        simp only [Option.bind_some] at hy
        split at hy
        · cases hy
        · cases hy; exact ⟨rfl, ‹_›⟩
  have hget' : ∀ m y, m ≠ n → get m env = some y → y.names ≠ some n → get m (put' n x env) = some y := by
    intro m y hm hy hne
    rw [get_put' hs, if_neg hm]
    cases hn : get n env with
    | none => exact hy
    | some z => simp only [hy, Option.bind_some]; rw [if_neg hne]
  have howns : ∀ m c g, m ≠ n → Owns (put' n x env) T' m c g → Owns env T m c g := by
    intro m c g hm ho
    cases c with
    | none =>
      obtain ⟨y, v, hy, h1, h2, h3⟩ := ho
      have := (hget m y hm hy).1
      exact ⟨y, v, this, h1, (hT' m y hm this) ▸ h2, h3⟩
    | some j =>
      obtain ⟨ys, us, y, v, hy, h1, h2⟩ := ho
      have := (hget m _ hm hy).1
      exact ⟨ys, us, y, v, this, (hT' m _ hm this) ▸ h1, h2⟩
  refine ⟨fun m y hy => ?_, fun m y k hy hk => ?_, fun m c m' c' g h1 h2 => ?_⟩
  · by_cases hm : m = n
    · subst hm
      rw [get_put' hs, if_pos rfl] at hy
      cases hy
      exact ⟨u, hT, hx⟩
    · obtain ⟨hy', hne⟩ := hget m y hm hy
      obtain ⟨v, hv, he⟩ := h.ent m y hy'
      refine ⟨v, (hT' m y hm hy').trans hv, ?_⟩
      cases y with
      | al k =>
        have hkn : k ≠ n := fun e => hne (by rw [e]; rfl)
        obtain ⟨z, hz, _⟩ := h.closed m _ k hy' rfl
        exact (hT' k z hkn hz).trans he
      | pe k i off sz =>
        have hkn : k ≠ n := fun e => hne (by rw [e]; rfl)
        obtain ⟨z, hz, _⟩ := h.closed m _ k hy' rfl
        obtain ⟨ad, l, c, kk, h1, h2, h3⟩ := he
        exact ⟨ad, l, c, kk, (hT' k z hkn hz).trans h1, h2, fun z' es hz' => h3 z' es (hget k z' hkn hz').1⟩
      | pb k off sz =>
        have hkn : k ≠ n := fun e => hne (by rw [e]; rfl)
        obtain ⟨z, hz, _⟩ := h.closed m _ k hy' rfl
        obtain ⟨ad, h1, h2⟩ := he
        exact ⟨ad, (hT' k z hkn hz).trans h1, h2⟩
      | _ => exact he
  · by_cases hm : m = n
    · subst hm
      rw [get_put' hs, if_pos rfl] at hy
      cases hy
      obtain ⟨hkn, z, hz, hzn⟩ := hnm k hk
      exact ⟨z, hget' k z hkn hz (by rw [hzn]; simp), hzn⟩
    · obtain ⟨hy', hne⟩ := hget m y hm hy
      have hkn : k ≠ n := fun e => hne (by rw [← e]; exact hk)
      obtain ⟨z, hz, hzn⟩ := h.closed m y k hy' hk
      exact ⟨z, hget' k z hkn hz (by rw [hzn]; simp), hzn⟩
  · by_cases hm : m = n
    · by_cases hm' : m' = n
      · subst hm; subst hm'; exact ⟨rfl, hown' _ _ _ h1 h2⟩
      · subst hm; exact absurd (howns m' c' g hm' h2) (hown c g h1 m' c' hm')
    · by_cases hm' : m' = n
      · subst hm'; exact absurd (howns m c g hm h1) (hown c' g h2 m c hm)
      · exact h.apart m c m' c' g (howns m c g hm h1) (howns m' c' g hm' h2)
end
end Go.VM
