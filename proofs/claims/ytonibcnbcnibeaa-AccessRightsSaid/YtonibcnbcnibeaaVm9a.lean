/-
  Writing a slot; freezing what a slot owns; operands. No program is named here.
-/
import Derived.Test.YtonibcnbcnibeaaVm8e
namespace Go.VM
open Go.RowKit

section
variable {P : Program} {nt : Nat} {keep : List Nat} {S : Nat → Prop} {base : Nat} {w0 : World} {env : Env} {a : Act} {w : World}

abbrev tm (a : Act) : Tm := fun n => a.tmps[n]?
theorem tm_put {a : Act} {d : Nat} {u : Value} (hd : d < a.tmps.size) (n : Nat) : tm (a.put (some d) u) n = if n = d then some u else tm a n := by
  unfold tm
  simp only [Act.put]
  by_cases h : n = d
  · subst h; simp [hd]
  · rw [if_neg h, Array.getElem?_setIfInBounds, if_neg (fun e => h e.symm)]

theorem Ents.ext {Im : Nat → Prop} {env' : Env} {T : Tm} (h : Ents P Im w base env T) (hg : ∀ n, get n env' = get n env) : Ents P Im w base env' T := by
  refine h.sub (fun n x hx => by rw [← hg]; exact hx) fun n x m hx hm => ?_
  rw [hg] at hx
  obtain ⟨y, hy, hn⟩ := h.closed n x m hx hm
  exact ⟨y, by rw [hg]; exact hy, hn⟩

/-- A slot is written with something new. -/
theorem FI.put (hF : FI P nt keep S base w0 env a w) {d : Nat} (hk : d ∈ keep) (hd : d < nt) {w1 : World} (hb : Below w.heap.size w w1) {x : V} {u : Value} (hnm : x.names = none)
    (hx : ∀ Im : Nat → Prop, (∀ b, S b → Im b) → (∀ b, Im b → (S b ∨ base ≤ b) ∧ b < w.heap.size) → Ents P Im w base env (tm a) →
      ∃ Im1 : Nat → Prop, (∀ b, Im b → Im1 b) ∧ (∀ b, Im1 b → (Im b ∨ w.heap.size ≤ b) ∧ b < w1.heap.size) ∧ Ent P Im1 w1 base (put' d x env) (tm (a.put (some d) u)) u x)
    (hown : ∀ c g, Owns (put' d x env) (tm (a.put (some d) u)) d c g → w.heap.size ≤ g) (hown' : ∀ c c' g, Owns (put' d x env) (tm (a.put (some d) u)) d c g → Owns (put' d x env) (tm (a.put (some d) u)) d c' g → c = c') :
    FI P nt keep S base w0 (put' d x env) (a.put (some d) u) w1 := by
  obtain ⟨Im, hI1, hI2, hE⟩ := hF.ents
  obtain ⟨Im1, h1, h2, hent⟩ := hx Im hI1 hI2 hE
  have hda : d < a.tmps.size := by rw [hF.size]; exact hd
  have hE1 := hE.move (w' := w1) h1 (fun n c g ho => by
    have := Owns.lt hE ho
    intro hg
    rcases (h2 g hg).1 with h | h
    · exact this.2.2 h
    · omega) (fun b hb' => hb.block b hb') (fun b h => (hI2 b h).2)
  refine ⟨hF.srt.put' _ _, by simpa [Act.put] using hF.size, hF.defers, hF.below.trans (hb.mono hF.bsz), Nat.le_trans hF.bsz hb.size, fun n y hy => ?_, Im1, fun b hb' => h1 b (hI1 b hb'), fun b hb' => ?_, ?_⟩
  · by_cases hn : n = d
    · subst hn; exact ⟨hk, hd⟩
    · rw [get_put' hF.srt, if_neg hn] at hy
      cases hq : get d env with
      | none => rw [hq] at hy; exact hF.keys n y hy
      | some z =>
        rw [hq] at hy
        simp only at hy
        cases hn' : get n env with
        | none => rw [hn'] at hy; cases hy
        | some y' => exact hF.keys n y' hn'
  · refine ⟨?_, (h2 b hb').2⟩
    rcases (h2 b hb').1 with h | h
    · exact (hI2 b h).1
    · exact .inr (Nat.le_trans hF.bsz h)
  · refine hE1.put hF.srt d x u ((tm_put hda d).trans (if_pos rfl)) (fun m y hm _ => (tm_put hda m).trans (if_neg hm)) hent (fun m hm => by rw [hnm] at hm; cases hm) (fun c g ho n' c' _ ho' => ?_) hown'
    have h3 := hown c g ho
    have h4 := (Owns.lt hE1 ho').1
    have h5 := (Owns.lt hE ho').1
    omega

theorem not_owns {d : Nat} {x : V} {T : Tm} (hs : Srt env) (hx : x.isOwn = false) (ht : ∀ ys, x ≠ .t ys) (c : Option Nat) (g : Nat) : ¬ Owns (put' d x env) T d c g := by
  intro ho
  cases c with
  | none =>
    obtain ⟨y, _, hy, hown, _⟩ := ho
    rw [get_put' hs, if_pos rfl] at hy
    cases hy
    rw [hx] at hown; cases hown
  | some j =>
    obtain ⟨ys, _, _, _, hy, _⟩ := ho
    rw [get_put' hs, if_pos rfl] at hy
    cases hy
    exact ht ys rfl

/-- A slot is written with plain data that all may read. -/
theorem FI.put_rep (hF : FI P nt keep S base w0 env a w) {d : Nat} (hk : d ∈ keep) (hd : d < nt) {w1 : World} (hb : Below w.heap.size w w1) {x : V} {u : Value} (hsmp : x.smp = true) (hno : x.isOwn = false)
    (hx : ∀ Im : Nat → Prop, (∀ b, S b → Im b) → (∀ b, Im b → (S b ∨ base ≤ b) ∧ b < w.heap.size) → Ents P Im w base env (tm a) →
      ∃ Im1 : Nat → Prop, (∀ b, Im b → Im1 b) ∧ (∀ b, Im1 b → (Im b ∨ w.heap.size ≤ b) ∧ b < w1.heap.size) ∧ Rep Im1 w1 u x) :
    FI P nt keep S base w0 (put' d x env) (a.put (some d) u) w1 := by
  have hnm : x.names = none := by cases x <;> first | rfl | (simp [V.smp] at hsmp; done)
  have ht : ∀ ys, x ≠ .t ys := fun ys e => by subst e; simp [V.smp] at hsmp
  refine hF.put hk hd hb hnm (fun Im h1 h2 h3 => ?_) (fun c g ho => absurd ho (not_owns hF.srt hno ht c g)) (fun c c' g ho => absurd ho (not_owns hF.srt hno ht c g))
  obtain ⟨Im1, h4, h5, hr⟩ := hx Im h1 h2 h3
  refine ⟨Im1, h4, h5, ?_⟩
  rw [Ent.res1 hsmp]
  cases x <;> first | exact hr | (simp [V.isOwn] at hno; done) | (simp [V.smp] at hsmp; done)
theorem rep_kind {S : Nat → Prop} {w : World} {u : Value} {v : V} (h : Rep S w u v) : v.isOwn = false := by cases h <;> rfl
theorem FI.put_flat (hF : FI P nt keep S base w0 env a w) {d : Nat} (hk : d ∈ keep) (hd : d < nt) {w1 : World} (hb : Below w.heap.size w w1) {x : V} {u : Value} {S' : Nat → Prop} {w' : World} (hx : Rep S' w' u x) (hfl : x.flat1 = true) :
    FI P nt keep S base w0 (put' d x env) (a.put (some d) u) w1 := by
  have hflat : x.flat = true := by cases x <;> first | exact hfl | (simp [V.flat1] at hfl; done)
  have hsm : x.smp = true := by
    rcases (flat_smp hx).2.2 with h | ⟨ys, rfl⟩
    · exact h
    · simp [V.flat1] at hfl
  exact hF.put_rep hk hd hb hsm (rep_kind hx) fun Im _ h2 _ => ⟨Im, fun _ h => h, fun b h => ⟨.inl h, Nat.lt_of_lt_of_le (h2 b h).2 hb.size⟩, hx.of_flat hflat⟩

/-- A new slice or variable of the call's own. -/
theorem FI.put_own (hF : FI P nt keep S base w0 env a w) {d : Nat} (hk : d ∈ keep) (hd : d < nt) {w1 : World} (hb : Below w.heap.size w w1) {x : V} {u : Value} (hown : x.isOwn = true) (hfresh : ∀ g, blkOf u = some g → w.heap.size ≤ g)
    (hx : ∀ Im : Nat → Prop, (∀ b, S b → Im b) → (∀ b, Im b → (S b ∨ base ≤ b) ∧ b < w.heap.size) → Ents P Im w base env (tm a) →
      ∃ Im1 : Nat → Prop, (∀ b, Im b → Im1 b) ∧ (∀ b, Im1 b → (Im b ∨ w.heap.size ≤ b) ∧ b < w1.heap.size) ∧ Res1 P Im1 w1 base u x) :
    FI P nt keep S base w0 (put' d x env) (a.put (some d) u) w1 := by
  have hda : d < a.tmps.size := by rw [hF.size]; exact hd
  have hsmp : x.smp = true := by cases x <;> simp_all [V.isOwn, V.smp]
  have hnm : x.names = none := by cases x <;> simp_all [V.isOwn, V.names]
  have hnt : ∀ ys, x ≠ .t ys := fun ys e => by subst e; simp [V.isOwn] at hown
  have ho : ∀ c g, Owns (put' d x env) (tm (a.put (some d) u)) d c g → c = none ∧ blkOf u = some g := by
    intro c g h
    cases c with
    | none =>
      obtain ⟨y, v, hy, _, hT, hg⟩ := h
      rw [tm_put hda, if_pos rfl] at hT
      cases hT
      exact ⟨rfl, hg⟩
    | some j =>
      obtain ⟨ys, _, _, _, hy, _⟩ := h
      rw [get_put' hF.srt, if_pos rfl] at hy
      cases hy
      exact absurd rfl (hnt ys)
  refine hF.put hk hd hb hnm (fun Im h1 h2 h3 => ?_) (fun c g h => hfresh g (ho c g h).2) (fun c c' g h h' => (ho c g h).1.trans (ho c' g h').1.symm)
  obtain ⟨Im1, h4, h5, hr⟩ := hx Im h1 h2 h3
  exact ⟨Im1, h4, h5, by rw [Ent.res1 hsmp]; exact hr⟩
end
end Go.VM
