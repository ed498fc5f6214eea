/-
  The table is made: its contract.
-/
import Derived.Test.YtmhpmghhgppdnaaOpen3
namespace Go.Proofs.Ytmhpmghhgppdnaa
open Go.VM Go.RowKit
/-- The indexes below n of the items of which p holds. -/
def idxsN (its : List Item) (n : Nat) (p : Item → Bool) : List Int := ((List.range n).filter fun i => match its[i]? with
  | some y => p y
  | none => false).map fun (i : Nat) => (i : Int)
theorem idxsN_succ (its : List Item) (n : Nat) (p : Item → Bool) {x : Item} (hx : its[n]? = some x) : idxsN its (n + 1) p = if p x = true then idxsN its n p ++ [(n : Int)] else idxsN its n p := by
  unfold idxsN
  rw [List.range_succ, List.filter_append, List.map_append]
  cases hp : p x <;> simp [hx, hp]
theorem idxsN_len (its : List Item) (n : Nat) (p : Item → Bool) : (idxsN its n p).length ≤ n := by
  unfold idxsN
  rw [List.length_map]
  exact Nat.le_trans (List.length_filter_le _ _) (by simp)
structure IdxAt (its : List Item) (n : Nat) (o : OS) : Prop where
  k1 : o.ks1.all (keyB 1) = true
  l1 : o.ks1.length = o.vs1.length
  f1 : ∀ r, (mfind (.s r) o.ks1 o.vs1).getD (.l []) = .l (ints (idxsN its n fun y => decide (y.ref = r)))
  k2 : o.ks2.all (keyB 2) = true
  l2 : o.ks2.length = o.vs2.length
  f2 : ∀ m, (mfind (.i .i64 m) o.ks2 o.vs2).getD (.l []) = .l (ints (idxsN its n fun y => decide (y.amount = m)))
section
variable {its : List Item} {S0 F0 : Nat → Prop} {w00 : World}
theorem leaf_does (hmut : MutOK Try.prog) {c : Code} {cc : C} {es : List (Nat × List Nat)} {out : List Nat} (h : comp Try.prog 53 kp rt c es out = some cc) : DoesG (opR its) Try.prog 53 kp S0 F0 w00 true (fun env s K => ∃ e env1, exec O0 cc env = some (e, env1) ∧ K e env1 s) c := by
  rintro env s K ⟨ex, env1, he, hK⟩ a w hFE Q hQ
  obtain ⟨S, F, base, wi, hF, hR, hFb, hb, hKp, k1, k2, k3, k4⟩ := hFE
  exact exec_sound (sound0 hmut) (by kernel_rfl) c es out cc h env ex env1 he a w hF Q fun a' w' h => hQ ex env1 s a' w' hK (FG.frame hF hR hFb hb hKp k1 k2 k3 k4 h)
theorem ints_eq {l l' : List Int} (h : V.l (ints l) = V.l (ints l')) : l = l' := by
  simp only [V.l.injEq] at h
  exact encL_inj int_inj h
theorem IdxAt.step1 {n : Nat} {o : OS} (h : IdxAt its n o) {x : Item} (hx : its[n]? = some x) {r : List Int} (hr : (mfind (.s x.ref) o.ks1 o.vs1).getD (.l []) = .l (ints r)) (q : List UInt8) :
    (mfind (.s q) (mkeys (.s x.ref) o.ks1) (mvals (.s x.ref) (.l (ints (r ++ [(n : Int)]))) o.ks1 o.vs1)).getD (.l []) = .l (ints (idxsN its (n + 1) fun y => decide (y.ref = q))) := by
  rw [mfind_put (kt := 1) rfl rfl h.l1 h.k1, idxsN_succ its n _ hx]
  have hr' : r = idxsN its n fun y => decide (y.ref = x.ref) := ints_eq (hr.symm.trans (h.f1 x.ref))
  by_cases hq : q = x.ref
  · subst hq
    simp [keyEq, hr']
  · have hq' : ¬ x.ref = q := fun e => hq e.symm
    simp [keyEq, hq, hq', h.f1 q]
theorem IdxAt.step2 {n : Nat} {o : OS} (h : IdxAt its n o) {x : Item} (hx : its[n]? = some x) {r : List Int} (hr : (mfind (.i .i64 x.amount) o.ks2 o.vs2).getD (.l []) = .l (ints r)) (q : Int) :
    (mfind (.i .i64 q) (mkeys (.i .i64 x.amount) o.ks2) (mvals (.i .i64 x.amount) (.l (ints (r ++ [(n : Int)]))) o.ks2 o.vs2)).getD (.l []) = .l (ints (idxsN its (n + 1) fun y => decide (y.amount = q))) := by
  rw [mfind_put (kt := 2) rfl rfl h.l2 h.k2, idxsN_succ its n _ hx]
  have hr' : r = idxsN its n fun y => decide (y.amount = x.amount) := ints_eq (hr.symm.trans (h.f2 x.amount))
  by_cases hq : q = x.amount
  · subst hq
    simp [keyEq, hr']
  · have hq' : ¬ x.amount = q := fun e => hq e.symm
    simp [keyEq, hq, hq', h.f2 q]
abbrev EL (its : List Item) (gt i : Nat) : Env := [(3, .pt gt), (12, .l (items its)), (13, .i .i64 its.length), (14, .i .i64 i)]
abbrev EX (its : List Item) (gt i : Nat) (x : Item) (v : V) : Env := [(3, .pt gt), (4, .i .i64 i), (5, v), (12, .l (items its)), (13, .i .i64 its.length), (14, .i .i64 i), (15, .b true)]
theorem fr_EX (o : OS) (i : Nat) (x : Item) (d : Nat) (hd : 16 ≤ d) : Fr o d i x (EX its o.gt i x (.r x.cells)) := by
  refine ⟨by simp [bare], by simp, by simp, by simp, fun n y hy => ?_⟩
  have := get_mem hy
  simp only [EX, List.mem_cons, Prod.mk.injEq, List.not_mem_nil, or_false] at this
  rcases this with h | h | h | h | h | h | h <;> (have := h.1; omega)
theorem rowRep {S : Nat → Prop} {w : World} {u : Value} {r : List Int} (h : RowOf w u r) (hS : ∀ b, blkOf u = some b → S b) : Rep S w u (.l (ints r)) := by
  have hfl : ∀ r : List Int, flatc (ints r) = ints r := fun r => by
    induction r with
    | nil => rfl
    | cons x r ih => simp only [ints, encL_cons] at ih ⊢; rw [flatc_cons, ih]; rfl
  have hrep : ∀ r : List Int, Reps S w (r.map fun k => Value.int .i64 k) (ints r) := fun r => by
    induction r with
    | nil => exact Reps.nil
    | cons x r ih => exact Reps.cons (.i _ _) ih
  have hlen : (ints r).length = r.length := by simp
  rcases h.2 with ⟨rfl, h0⟩ | ⟨g, cap, cur, rfl, _, hh, hn, _, hsz, ht⟩
  · have : r = [] := List.eq_nil_of_length_eq_zero h0
    subst this
    exact .l0 _ _
  · have := Rep.mk_slice (S := S) (w := w) (a := some ⟨g, 0, none⟩) (c := cap) (k := 1) (es := ints r) (vs := r.map fun k => Value.int .i64 k) (fun e he => by obtain ⟨k, _, rfl⟩ := List.mem_map.1 he; rfl) (fun x hx => by rw [hfl] at hx; obtain ⟨k, _, rfl⟩ := List.mem_map.1 hx; rfl) (by rw [hfl]; exact hrep r) (by rw [hlen]; exact hn) (.inr ⟨_, rfl, hS g rfl, fun j u hj => ?_⟩)
    · rw [hlen] at this; exact this
    · rw [← ht, List.getElem?_take] at hj
      split at hj
      · simp only [World.cell?, add_block, hh]
        unfold Addr.add
        split
        · rename_i hj0; subst hj0; simpa using hj
        · simpa using hj
      · cases hj
theorem Grp.mapAt {S : Nat → Prop} {w : World} {g : Nat} {ks vs : List V} {B : Nat → Prop} {es : Array MapEntry} {clock : Nat} (h : Grp w g ks vs B es clock) (hS : ∀ b, B b → S b) : MapAt S w g ks vs := by
  refine ⟨es, clock, h.here, h.keys, h.uniq, ⟨by simpa using h.len, fun j u x hu hx => ?_⟩, h.nodup, h.born⟩
  obtain ⟨r, rfl, hr⟩ := h.row j u x hu hx
  exact rowRep hr fun b hb => hS b (h.blk j u b hu hb)
end
theorem open_OK (hmut : MutOK Try.prog) (its : List Item) (hl : its.length ≤ 4096) : OpenOK its := by
  intro S F w vs hS hSF hG hr hR
  have hR : MapsOK [] S F w := hR
  have hF0 : ∀ b, ¬ F b := fun b hb => by
    obtain ⟨p, hp, _⟩ := (hR.dom b).1 hb
    cases hp
  refine calls_of_wp Try.func28 body28 ?_
  rw [nt28]
  have hlen : vs.length = 1 := hr.1
  have hF := FI.start (P := Try.prog) (nt := 53) (keep := kp) hS hG hr rfl (by simp) (fun n hn => by
    have : n = 0 := by simp at hn; exact hn
    subst this
    have h : kp.contains 0 = true := by kernel_rfl
    simpa using h) (by simp [hlen])
  have hFE : FG (opR its) Try.prog 53 kp S F w true (args0 0 [.l (items its)]) none _ w := ⟨S, F, w.heap.size, w, hF, hF0, fun b hb => absurd hb (hF0 b), Nat.le_refl _, ⟨rfl, rfl, rfl, Nat.le_refl _, fun _ _ _ => rfl⟩, fun _ h => h, fun b h => .inl h, fun b h => .inl h, fun h => by cases h⟩
  have hD := DoesG.seq (leaf_does (its := its) (S0 := S) (F0 := F) (w00 := w) hmut comp_q0) (DoesG.seq made_does (DoesG.seq (DoesG.seq (leaf_does hmut comp_q2) (DoesG.blk 0 (DoesG.loop [3, 12, 13, 14] (DoesG.seq (leaf_does hmut comp_b0) (DoesG.seq (leaf_does hmut comp_b1) (DoesG.seq (DoesG.blk 1 (DoesG.seq (leaf_does hmut comp_b2) (DoesG.seq grow5_does grow6_does))) (leaf_does hmut comp_b5))))))) (leaf_does hmut comp_q3)))
  refine hD _ none (fun e env s1 => (∀ j, e ≠ .e j) ∧ ∃ o, s1 = some o ∧ retV [.tmp 2] env = some (.pt o.gt) ∧ IdxAt its its.length o) ?_ _ w hFE _ fun ex env' s1 a' w' hK hFE' => ?_
  · -- the evaluator's side
    refine ⟨.n, [(0, .l (items its)), (2, .np)], by simp [k0, args0], ?_⟩
    refine ⟨rfl, by simp [frzAll, bare], by simp [frzAll], fun n x hx => ?_, fun o h1 h2 h3 h4 => ?_⟩
    · have : n = 0 ∨ n = 2 := by
        have hx' : get n [(0, V.l (items its)), (2, .np)] = some x := by simpa [frzAll] using hx
        have := get_mem hx'
        simp only [List.mem_cons, Prod.mk.injEq, List.not_mem_nil, or_false] at this
        rcases this with h | h
        · exact .inl h.1
        · exact .inr h.1
      omega
    · refine ⟨.n, [(0, .l (items its)), (2, .np), (3, .pt o.gt), (12, .l (items its)), (13, .i .i64 its.length), (14, .i .i64 0)], by simp [k2, frzAll], ?_⟩
      refine ⟨fun n env s => ∃ i o, n = its.length - i ∧ i ≤ its.length ∧ s = some o ∧ IdxAt its i o ∧ VM.keepE [3, 12, 13, 14] env = EL its o.gt i, its.length, ⟨0, o, by omega, by omega, rfl, ⟨by rw [h1]; rfl, by rw [h1, h2], fun r => by rw [h1, h2]; rfl, by rw [h3]; rfl, by rw [h3, h4], fun r => by rw [h3, h4]; rfl⟩, by simp⟩, ?_⟩
      rintro n env s ⟨i, o, rfl, hi, rfl, hI, henv⟩
      rw [henv]
      by_cases hil : i < its.length
      · have hx := List.getElem?_eq_getElem hil
        have hw := wrap_i64 (i + 1) (by omega)
        refine ⟨.n, EL its o.gt i ++ [(15, .b true)], by simp [e0, hil], .n, EL its o.gt i ++ [(15, .b true)], by simp [e1], ?_⟩
        refine ⟨.n, EX its o.gt i its[i] (.bx its[i].cells), by simp [e2, hil], ?_⟩
        have hfz : ∀ o : OS, frzAll (EX its o.gt i its[i] (.bx its[i].cells)) = EX its o.gt i its[i] (.r its[i].cells) := fun o => by simp [frzAll]
        have hfz2 : ∀ o : OS, frzAll (EX its o.gt i its[i] (.r its[i].cells)) = EX its o.gt i its[i] (.r its[i].cells) := fun o => by simp [frzAll]
        refine ⟨o, (i : Int), its[i], rfl, by rw [hfz o]; exact fr_EX o i its[i] 19 (by omega), hI.k1, fun r hr => ?_, fun r hr => ?_⟩
        · have : r = idxsN its i fun y => decide (y.ref = its[i].ref) := ints_eq (hr.symm.trans (hI.f1 _))
          have h5 := idxsN_len its i fun y => decide (y.ref = its[i].ref)
          rw [← this] at h5
          omega
        · have hA := hI.step1 hx hr
          refine ⟨_, (i : Int), its[i], rfl, by rw [hfz o, hfz2 o]; exact fr_EX _ i its[i] 35 (by omega), hI.k2, fun r2 hr2 => ?_, fun r2 hr2 => ?_⟩
          · have : r2 = idxsN its i fun y => decide (y.amount = its[i].amount) := ints_eq (hr2.symm.trans (hI.f2 _))
            have h5 := idxsN_len its i fun y => decide (y.amount = its[i].amount)
            rw [← this] at h5
            omega
          · have hB := hI.step2 hx hr2
            refine ⟨.n, [(3, .pt o.gt), (4, .i .i64 i), (5, .r its[i].cells), (12, .l (items its)), (13, .i .i64 its.length), (14, .i .i64 ((i + 1 : Nat) : Int)), (15, .b true)], by rw [hfz o, hfz2 o]; simp [e5, hw], its.length - (i + 1), by omega, i + 1, _, rfl, hil, rfl, ⟨mkeys_all rfl hI.k1, mlen_put hI.l1, hA, mkeys_all rfl hI.k2, mlen_put hI.l2, hB⟩, by simp⟩
      · have hie : i = its.length := by omega
        subst hie
        refine ⟨.n, EL its o.gt its.length ++ [(15, .b false)], by simp [e0], .e 0, [(3, .pt o.gt)], by simp [e1], ?_⟩
        refine ⟨.r, [(2, .pt o.gt)], by simp [k3], fun j h => (by cases h), o, rfl, by simp [retV, resVs, resV], hI⟩
  · obtain ⟨hx, o, rfl, hret, hI⟩ := hK
    obtain ⟨S', F', base, wi, hF', hR', hFb, hb, hKp, k1, k2, k3, k4⟩ := hFE'
    obtain ⟨v0, ty, B1, B2, es1, es2, c1, c2, c3, hW⟩ := hR'
    have fin : a'.defers = [] ∧ ∃ v, (results Try.f28 a'.tmps).run Try.prog w' = .ok v w' ∧ ∃ v' y s', Ending.returned v = .returned v' ∧ (∃ g1 g2 g3, y = tab3 its g1 g2 g3 ∧ TabOK its g1 g2 g3 [] s') ∧ Keeps w.heap.size F w w' ∧
        ∃ S'' F'' : Nat → Prop, (∀ b, S b → S'' b) ∧ (∀ b, S'' b → (S b ∨ w.heap.size ≤ b) ∧ b < w'.heap.size) ∧ MapsOK s' S'' F'' w' ∧ (∀ b, F'' b → F b ∨ w.heap.size ≤ b) ∧ (∀ b, F'' b → ¬ S'' b) ∧ Rep S'' w' v' y := by
      obtain ⟨Im, hI1, hI2, hE⟩ := hF'.ents
      obtain ⟨v, hrun, hrs⟩ := res_of (fn := Try.f28) (rvs := [.tmp 2]) hE hF'.srt rfl (by kernel_rfl) hret
      have hrs : Rep Im w' v (.pt o.gt) := hrs
      cases hrs
      obtain ⟨n1, n2, n3, n4, n5, n6⟩ := hW.ne
      have hFd : ∀ b, F' b → w.heap.size ≤ b ∧ ¬ Im b ∧ b < w'.heap.size := fun b hb' => by
        refine ⟨(k3 b hb').resolve_left (hF0 b), fun hi => ?_, (opR its).lt (some o) S' F' w' b ⟨v0, ty, B1, B2, es1, es2, c1, c2, c3, hW⟩ hb'⟩
        rcases (hI2 b hi).1 with h | h
        · exact (hFb b hb').2 h
        · have := (hFb b hb').1; omega
      have fgt : F' o.gt := (hW.dom _).2 (.inl rfl)
      have fg1 : F' o.g1 := (hW.dom _).2 (.inr (.inl rfl))
      have fg2 : F' o.g2 := (hW.dom _).2 (.inr (.inr (.inl rfl)))
      have fg3 : F' o.g3 := (hW.dom _).2 (.inr (.inr (.inr (.inl rfl))))
      have fB : ∀ b, B1 b ∨ B2 b → F' b := fun b hb' => (hW.dom b).2 (.inr (.inr (.inr (.inr hb'))))
      refine ⟨hF'.defers, _, hrun, _, tab3 its o.g1 o.g2 o.g3, [(o.g1, o.ks1, o.vs1), (o.g2, o.ks2, o.vs2), (o.g3, [], [])], rfl, ⟨o.g1, o.g2, o.g3, rfl, ?_⟩, ⟨hF'.below.os.trans hKp.os, hF'.below.tape.trans hKp.tape, hF'.below.output.trans hKp.output, Nat.le_trans hb hF'.bsz, fun b hb' hnf => ?_⟩,
        fun b => Im b ∨ b = o.gt ∨ B1 b ∨ B2 b, fun b => b = o.g1 ∨ b = o.g2 ∨ b = o.g3, fun b h => .inl (hI1 b (k1 b h)), fun b h => ?_, ⟨fun b => ?_, ?_, fun p hp => ?_⟩, fun b hb' => ?_, fun b hb' hs => ?_, ?_⟩
      · refine ⟨⟨o.ks1, o.vs1, by simp [getM], hI.k1, hI.f1⟩, ⟨o.ks2, o.vs2, by simp [getM, n4], hI.k2, hI.f2⟩, ?_, n5, n6⟩
        unfold isSet
        simp only [getM, if_neg n5, if_neg n6, if_true]
        rfl
      · rw [hF'.below.block b (by omega), hKp.block b hb' hnf]
      · rcases h with h | h
        · refine ⟨?_, (hI2 b h).2⟩
          rcases (hI2 b h).1 with h | h
          · exact k2 b h
          · exact .inr (Nat.le_trans hb h)
        · have hf : F' b := by
            rcases h with rfl | h
            · exact fgt
            · exact fB b h
          exact ⟨.inr (hFd b hf).1, (hFd b hf).2.2⟩
      · constructor
        · rintro (rfl | rfl | rfl)
          · exact ⟨_, List.mem_cons_self .., rfl⟩
          · exact ⟨_, List.mem_cons_of_mem _ (List.mem_cons_self ..), rfl⟩
          · exact ⟨_, List.mem_cons_of_mem _ (List.mem_cons_of_mem _ (List.mem_cons_self ..)), rfl⟩
        · rintro ⟨p, hp, rfl⟩
          simp only [List.mem_cons, List.not_mem_nil, or_false] at hp
          rcases hp with rfl | rfl | rfl
          · exact .inl rfl
          · exact .inr (.inl rfl)
          · exact .inr (.inr rfl)
      · simp [n4, n5, n6]
      · simp only [List.mem_cons, List.not_mem_nil, or_false] at hp
        rcases hp with rfl | rfl | rfl
        · exact hW.one.mapAt fun b hb' => .inr (.inr (.inl hb'))
        · exact hW.two.mapAt fun b hb' => .inr (.inr (.inr hb'))
        · exact ⟨#[], c3, hW.three, rfl, by simp, Reps.nil, by simp, by simp⟩
      · rcases hb' with rfl | rfl | rfl
        · exact .inr (hFd _ fg1).1
        · exact .inr (hFd _ fg2).1
        · exact .inr (hFd _ fg3).1
      · have hnI : ¬ Im b := by
          rcases hb' with rfl | rfl | rfl
          · exact (hFd _ fg1).2.1
          · exact (hFd _ fg2).2.1
          · exact (hFd _ fg3).2.1
        rcases hs with h | h | h
        · exact hnI h
        · rcases hb' with rfl | rfl | rfl
          · exact n1 h.symm
          · exact n2 h.symm
          · exact n3 h.symm
        · obtain ⟨m1, m2, m3, m4, _⟩ := hW.off b h
          rcases hb' with h' | h' | h'
          · exact m2 h'
          · exact m3 h'
          · exact m4 h'
      · refine .r ⟨o.gt, 0, none⟩ _ [v0, .map (some o.g1), .map (some o.g2), .map (some o.g3)] (.inr (.inl rfl)) (fun x hx => ?_) rfl (fun j u hj => ?_) (fun j u x hu hx => ?_)
        · simp only [List.mem_cons, List.not_mem_nil, or_false] at hx
          rcases hx with rfl | rfl | rfl | rfl <;> rfl
        · match j, hj with
          | 0, hj => simp at hj; subst hj; simp [World.cell?, Addr.add, hW.here]
          | 1, hj => simp at hj; subst hj; simp [World.cell?, Addr.add, hW.here]
          | 2, hj => simp at hj; subst hj; simp [World.cell?, Addr.add, hW.here]
          | 3, hj => simp at hj; subst hj; simp [World.cell?, Addr.add, hW.here]
          | j + 4, hj => simp at hj
        · match j, hu, hx with
          | 0, hu, hx => simp at hu hx; subst hu; subst hx; exact hW.its.mono fun b hb' => .inl (hI1 b hb')
          | 1, hu, hx => simp at hu hx; subst hu; subst hx; exact .mr _
          | 2, hu, hx => simp at hu hx; subst hu; subst hx; exact .mr _
          | 3, hu, hx => simp at hu hx; subst hu; subst hx; exact .mr _
          | j + 4, hu, hx => simp at hu
    cases ex with
    | n => exact fin
    | r => exact fin
    | e id => exact absurd rfl (hx id)
end Go.Proofs.Ytmhpmghhgppdnaa
