/-
  Maps in memory beside the frame, each at its block: what they hold, key by key. No program is named here.
-/
import Derived.Test.YtggmlfmhinafhaaVmW
set_option linter.unusedSectionVars false
namespace Go.VM
open Go.RowKit
variable [Glob]

section
variable {env : Env} {q : Option Nat}
@[simp] theorem names_mr : (V.mr q).names = none := rfl
@[simp] theorem frz_mr : frz (.mr q) = .mr q := rfl
@[simp] theorem own_mr : (V.mr q).isOwn = false := rfl
@[simp] theorem flat_mr : (V.mr q).flat = true := by simp [V.flat]
@[simp] theorem flat1_mr : (V.mr q).flat1 = true := by simp [V.flat1, V.flat]
@[simp] theorem uniq_mr : (V.mr q).uniq = true := by simp [V.uniq]
@[simp] theorem lookE_mr : lookE env (some (.mr q)) = some (.mr q) := rfl
@[simp] theorem rd_mr : rd (.mr q) = some (.mr q) := rfl
@[simp] theorem cell_mr : V.cell (.mr q) = true := rfl
end
/-- Maps: their blocks, their keys, what stands at each. -/
abbrev Maps := List (Nat × List V × List V)
def putM (g : Nat) (ks vs : List V) : Maps → Maps
  | [] => []
  | p :: s => if p.1 = g then (g, ks, vs) :: s else p :: putM g ks vs s
def getM (g : Nat) : Maps → Option (List V × List V)
  | [] => none
  | p :: s => if p.1 = g then some p.2 else getM g s
/-- The map in block g. -/
def MapAt (S : Nat → Prop) (w : World) (g : Nat) (ks vs : List V) : Prop :=
  ∃ (es : Array MapEntry) (clock : Nat), w.heap[g]? = some (.map es clock) ∧ es.toList.map (·.key) = ks.map V.toVal ∧ (∀ x ∈ ks, x.uniq = true) ∧ Reps S w (es.toList.map (·.val)) vs ∧ (es.toList.map (·.born)).Nodup ∧ ∀ x ∈ es.toList, x.born < clock
structure MapsOK (s : Maps) (S F : Nat → Prop) (w : World) : Prop where
  dom : ∀ b, F b ↔ ∃ p ∈ s, p.1 = b
  nodup : (s.map (·.1)).Nodup
  each : ∀ p ∈ s, MapAt S w p.1 p.2.1 p.2.2

section
variable (P : Program) (cf : Maps → Nat → List V → Option (V × Maps))
/-- A look, a store, or a call by cf. -/
def mapEff (s : Maps) (f : Nat) (zs : List V) : Option (V × Maps) :=
  if f = LOOK then match zs with
    | [.i .i64 t, .mr q, k] => (mapTy P t.toNat).bind fun p => (zeroV P p.2).bind fun z => if (decide (0 ≤ t) && keyB p.1 k) = true then match q with
        | none => if z.cell = true then some (z, s) else none
        | some g => (getM g s).bind fun m => if (m.1.all (keyB p.1) && ((mfind k m.1 m.2).getD z).cell) = true then some ((mfind k m.1 m.2).getD z, s) else none
      else none
    | _ => none
  else if f = UPD then match zs with
    | [.i .i64 t, .mr (some g), k, v] => (mapTy P t.toNat).bind fun p => (getM g s).bind fun m => if (decide (0 ≤ t) && keyB p.1 k && m.1.all (keyB p.1) && m.2.all V.uniq && v.uniq && v.cell) = true then some (.t [], putM g (mkeys k m.1) (mvals k v m.1 m.2) s) else none
    | _ => none
  else if f = NILC then match zs with
    | [.r cs] => some (.r cs, s)
    | _ => none
  else cf s f zs
end

section
variable {P : Program} {S S' F : Nat → Prop} {w w' : World} {s : Maps}
theorem MapAt.move {g : Nat} {ks vs : List V} (h : MapAt S w g ks vs) (hS : ∀ b, S b → S' b) (hw : ∀ b, S b → w'.heap[b]? = w.heap[b]?) (hg : w'.heap[g]? = w.heap[g]?) : MapAt S' w' g ks vs := by
  obtain ⟨es, clock, h1, h2, h3, h4, h5⟩ := h
  exact ⟨es, clock, hg.trans h1, h2, h3, h4.move hS fun p hp => World.cell?_of_block (hw _ hp), h5⟩
theorem MapsOK.loc (h : MapsOK s S F w) (hS : ∀ b, S b → S' b) (hw : ∀ b, S b ∨ F b → w'.heap[b]? = w.heap[b]?) : MapsOK s S' F w' :=
  ⟨h.dom, h.nodup, fun p hp => (h.each p hp).move hS (fun b hb => hw b (.inl hb)) (hw _ (.inr ((h.dom _).2 ⟨p, hp, rfl⟩)))⟩
def mapsR (P : Program) (cf : Maps → Nat → List V → Option (V × Maps)) : Rs Maps where
  R := MapsOK
  eff := mapEff P cf
  loc := fun _ _ _ _ _ _ h hS hw => h.loc hS hw
  lt := fun s S F w b h hb => by
    obtain ⟨p, hp, rfl⟩ := (h.dom b).1 hb
    obtain ⟨es, clock, h1, _⟩ := h.each p hp
    exact (Array.getElem?_eq_some_iff.1 h1).1
theorem getM_mem {g : Nat} {m : List V × List V} : ∀ {s : Maps}, getM g s = some m → (g, m) ∈ s
  | p :: s, h => by
    simp only [getM] at h
    split at h
    · rename_i hg
      cases h; subst hg; exact List.mem_cons_self ..
    · exact List.mem_cons_of_mem _ (getM_mem h)
theorem putM_fst {g : Nat} {ks vs : List V} : ∀ s : Maps, (putM g ks vs s).map (·.1) = s.map (·.1)
  | [] => rfl
  | p :: s => by
    simp only [putM]
    split
    · rename_i h; simp [h]
    · simp [putM_fst s]
theorem putM_mem {g : Nat} {ks vs : List V} {q : Nat × List V × List V} : ∀ {s : Maps}, (s.map (·.1)).Nodup → q ∈ putM g ks vs s → q = (g, ks, vs) ∨ (q ∈ s ∧ q.1 ≠ g)
  | [], _, h => by cases h
  | p :: s, hn, h => by
    simp only [List.map_cons, List.nodup_cons] at hn
    simp only [putM] at h
    split at h
    · rename_i hp
      rcases List.mem_cons.1 h with h | h
      · exact .inl h
      · refine .inr ⟨List.mem_cons_of_mem _ h, fun e => hn.1 ?_⟩
        rw [hp, ← e]; exact List.mem_map_of_mem h
    · rename_i hp
      rcases List.mem_cons.1 h with rfl | h
      · exact .inr ⟨List.mem_cons_self .., hp⟩
      · rcases putM_mem hn.2 h with h | ⟨h1, h2⟩
        · exact .inl h
        · exact .inr ⟨List.mem_cons_of_mem _ h1, h2⟩
/-- A key among keys, whatever stands there. -/
theorem find_at {kt : Nat} {k : V} (hk : keyB kt k = true) : ∀ {ks vs : List V} {es : List MapEntry} (i : Nat), es.map (·.key) = ks.map V.toVal → es.length = vs.length → ks.all (keyB kt) = true →
    (mfind k ks vs = none ∧ Instr.findNow (keyDesc kt) k.toVal es i = some none) ∨ ∃ (j : Nat) (e : MapEntry) (r : V), mfind k ks vs = some r ∧ Instr.findNow (keyDesc kt) k.toVal es i = some (some (i + j, e.val)) ∧ es[j]? = some e ∧ vs[j]? = some r
  | [], vs, [], i, _, h2, _ => .inl ⟨by cases vs <;> rfl, rfl⟩
  | x :: ks, y :: vs, e :: es, i, h1, h2, h3 => by
    simp only [List.map_cons, List.cons.injEq] at h1
    simp only [List.length_cons, Nat.add_right_cancel_iff] at h2
    simp only [List.all_cons, Bool.and_eq_true] at h3
    have hs := sameNow_eq hk h3.1
    cases hq : keyEq k x with
    | true =>
      refine .inr ⟨0, e, y, by simp [mfind, hq], ?_, rfl, rfl⟩
      simp only [Instr.findNow, h1.1, hs, hq, Nat.add_zero]
    | false =>
      have hm : mfind k (x :: ks) (y :: vs) = mfind k ks vs := by simp [mfind, hq]
      have hf : Instr.findNow (keyDesc kt) k.toVal (e :: es) i = Instr.findNow (keyDesc kt) k.toVal es (i + 1) := by simp only [Instr.findNow, h1.1, hs, hq]
      rw [hm, hf]
      rcases find_at hk (i + 1) h1.2 h2 h3.2 with h | ⟨j, e', r, g1, g2, g3, g4⟩
      · exact .inl h
      · exact .inr ⟨j + 1, e', r, g1, by rw [g2]; congr 3; omega, g3, g4⟩
  | [], _, e :: es, i, h1, _, _ => by simp at h1
  | x :: ks, _, [], i, h1, _, _ => by simp at h1
  | x :: ks, [], e :: es, i, _, h2, _ => by simp at h2
theorem zeroV_rep {t : TypeId} {z : V} (h : zeroV P t = some z) : ∃ zv, (∀ w : World, (zeroValue t).run P w = .ok zv w) ∧ ∀ (S : Nat → Prop) (w : World), Rep S w zv z := by
  unfold zeroV at h
  cases hi : P.info? t with
  | none => rw [hi] at h; cases h
  | some it =>
    rw [hi] at h
    simp only [Option.bind_some] at h
    cases hzz : it.zero with
    | none => rw [hzz] at h; cases h
    | some zv =>
      rw [hzz] at h
      simp only [Option.bind_some] at h
      exact ⟨zv, fun w => by simp [zeroValue, typeInfo, hi, hzz], fun S w => ofConst_rep h⟩
theorem lookG_run {t k0 e : TypeId} {kt g : Nat} (ht : P.underlying t = some (.map k0 e)) (hkt : keyTy P k0 = some kt) {z : V} (hz : zeroV P e = some z) {ks vs : List V} (hM : MapAt S w g ks vs) {k : V} (hk : keyB kt k = true) (h3 : ks.all (keyB kt) = true) :
    ∃ u, (Instr.lookup t (.map (some g)) k.toVal false).run P w = .ok u w ∧ Rep S w u ((mfind k ks vs).getD z) := by
  obtain ⟨es, clock, hg, h1, _, hv, _⟩ := hM
  obtain ⟨zv, hzr, hzrep⟩ := zeroV_rep hz
  have hl : es.toList.length = vs.length := by have := hv.1; simpa using this
  have hf : ∀ r, Instr.findNow (keyDesc kt) k.toVal es.toList 0 = some r → (Instr.findKey k0 k.toVal es.toList).run P w = .ok r w := fun r hr => by
    unfold Instr.findKey
    simp only [Sem.run_bind, run_underlying (keyTy_desc hkt), Result.andThen_ok, hr, Sem.run_pure]
  rcases find_at hk 0 h1 hl h3 with ⟨hm, hn⟩ | ⟨j, en, r, hm, hn, hj, hr⟩
  · refine ⟨zv, ?_, by rw [hm]; exact hzrep S w⟩
    unfold Instr.lookup
    simp only [Sem.run_bind, run_underlying ht, Result.andThen_ok, getMap_run hg, Sem.run_pure, checkKey_run hkt _ hk, hf _ hn, hzr]
    simp
  · refine ⟨en.val, ?_, by rw [hm]; exact hv.2 j en.val r (by simp [List.getElem?_map, hj]) hr⟩
    unfold Instr.lookup
    simp only [Sem.run_bind, run_underlying ht, Result.andThen_ok, getMap_run hg, Sem.run_pure, checkKey_run hkt _ hk, hf _ hn]
    simp
theorem look0_run {t k0 e : TypeId} {kt : Nat} (ht : P.underlying t = some (.map k0 e)) (hkt : keyTy P k0 = some kt) {z : V} (hz : zeroV P e = some z) {k : V} (hk : keyB kt k = true) :
    ∃ u, (Instr.lookup t (.map none) k.toVal false).run P w = .ok u w ∧ Rep S w u z := by
  obtain ⟨zv, hzr, hzrep⟩ := zeroV_rep hz
  refine ⟨zv, ?_, hzrep S w⟩
  unfold Instr.lookup
  have hf : (Instr.findKey k0 k.toVal []).run P w = .ok none w := by
    unfold Instr.findKey
    simp only [Sem.run_bind, run_underlying (keyTy_desc hkt), Result.andThen_ok, Instr.findNow, Sem.run_pure]
  simp only [Sem.run_bind, run_underlying ht, Result.andThen_ok, Sem.run_pure, checkKey_run hkt _ hk]
  rw [hf]
  simp [hzr]
theorem mapTy_inv {t : TypeId} {p : Nat × TypeId} (h : mapTy P t = some p) : ∃ k0, P.underlying t = some (.map k0 p.2) ∧ keyTy P k0 = some p.1 := by
  unfold mapTy at h
  split at h
  · rename_i k0 e hu
    obtain ⟨kt, hkt, he⟩ := Option.map_eq_some_iff.1 h
    cases he
    exact ⟨k0, hu, hkt⟩
  · cases h
theorem reps_map {l : List V} (h : ∀ x ∈ l, Rep S w x.toVal x) : Reps S w (l.map V.toVal) l := by
  refine ⟨by simp, fun j u x hu hx => ?_⟩
  rw [List.getElem?_map, hx] at hu
  simp only [Option.map_some, Option.some.injEq] at hu
  subst hu
  exact h x (List.mem_of_getElem? hx)
theorem reps_uniq {us : List Value} : ∀ {us : List Value} {l : List V}, Reps S w us l → (∀ x ∈ l, x.uniq = true) → us = l.map V.toVal ∧ ∀ x ∈ l, Rep S w x.toVal x
  | [], [], _, _ => ⟨rfl, by simp⟩
  | [], _ :: _, h, _ => absurd h.1 (by simp)
  | _ :: _, [], h, _ => absurd h.1 (by simp)
  | u :: us, x :: l, h, hu => by
    obtain ⟨h1, h2⟩ := reps_uniq (us := us) h.tail fun y hy => hu y (List.mem_cons_of_mem _ hy)
    have hx := h.head.val (hu x (List.mem_cons_self ..))
    refine ⟨by rw [hx, h1]; rfl, fun y hy => ?_⟩
    rcases List.mem_cons.1 hy with rfl | hy
    · exact hx ▸ h.head
    · exact h2 y hy

theorem mapsR_sound {cf : Maps → Nat → List V → Option (V × Maps)} (hcf : ∀ s f zs y s', cf s f zs = some (y, s') → f ≠ LOOK → f ≠ UPD → f ≠ NILC → okFn P f = true ∧ okY y = true ∧ PFG P (mapsR P cf) f zs s y s') : SoundR P (mapsR P cf) := by
  intro s f zs y s' he0
  have he : mapEff P cf s f zs = some (y, s') := he0
  clear he0
  unfold mapEff at he
  unfold EffOK
  by_cases hL : f = LOOK
  · rw [if_pos hL] at he ⊢
    split at he
    · rename_i t q k
      simp only [Option.bind_eq_some_iff] at he
      obtain ⟨p, hp, z, hz, he⟩ := he
      split at he
      · rename_i hc
        simp only [Bool.and_eq_true, decide_eq_true_eq] at hc
        obtain ⟨k0, hu, hkt⟩ := mapTy_inv hp
        have htt : ((t.toNat : Nat) : Int) = t := Int.toNat_of_nonneg hc.1
        have key : y.cell = true → s' = s → (∀ (S F : Nat → Prop) (w : World), MapsOK s S F w → ∃ u, (Instr.lookup t.toNat (.map q) k.toVal false).run P w = .ok u w ∧ Rep S w u y) →
            s' = s ∧ y.smp = true ∧ y.isOwn = false ∧ ∃ (t' : Nat) (m kk : V), [V.i .i64 t, .mr q, k] = [.i .i64 (t' : Int), m, kk] ∧ ∀ (S F : Nat → Prop) (w : World) (um uk : Value), (mapsR P cf).R s S F w → Rep S w um m → Rep S w uk kk → ∃ u, (Instr.lookup t' um uk false).run P w = .ok u w ∧ Rep S w u y := by
          intro hcell hs hrun
          refine ⟨hs, ?_, ?_, t.toNat, .mr q, k, by rw [htt], fun S F w um uk hR hm hkk => ?_⟩
          · cases y <;> first | rfl | (simp [V.cell] at hcell; done)
          · cases y <;> first | rfl | (simp [V.cell] at hcell; done)
          · cases hm
            rw [hkk.val (keyB_uniq hc.2)]
            exact hrun S F w hR
        split at he
        · split at he
          · rename_i hcell
            simp only [Option.some.injEq, Prod.mk.injEq] at he
            obtain ⟨rfl, rfl⟩ := he
            exact key hcell rfl fun S F w _ => look0_run hu hkt hz hc.2
          · cases he
        · rename_i g
          simp only [Option.bind_eq_some_iff] at he
          obtain ⟨m, hm, he⟩ := he
          split at he
          · rename_i hc2
            simp only [Bool.and_eq_true] at hc2
            simp only [Option.some.injEq, Prod.mk.injEq] at he
            obtain ⟨rfl, rfl⟩ := he
            exact key hc2.2 rfl fun S F w hR => lookG_run hu hkt hz (hR.each _ (getM_mem hm)) hc.2 hc2.1
          · cases he
      · cases he
    · cases he
  · rw [if_neg hL] at he ⊢
    by_cases hU : f = UPD
    · rw [if_pos hU] at he ⊢
      split at he
      · rename_i t g k v
        simp only [Option.bind_eq_some_iff] at he
        obtain ⟨p, hp, m, hm, he⟩ := he
        split at he
        · rename_i hc
          simp only [Bool.and_eq_true, decide_eq_true_eq] at hc
          obtain ⟨⟨⟨⟨⟨ht0, hkk⟩, hks⟩, hvs⟩, hvu⟩, hvc⟩ := hc
          simp only [Option.some.injEq, Prod.mk.injEq] at he
          obtain ⟨rfl, rfl⟩ := he
          obtain ⟨k0, hu, hkt⟩ := mapTy_inv hp
          have htt : ((t.toNat : Nat) : Int) = t := Int.toNat_of_nonneg ht0
          refine ⟨t.toNat, .mr (some g), k, v, by rw [htt], rfl, fun S F w um uk ux hSF hR hm' hk' hx' => ?_⟩
          cases hm'
          have hR : MapsOK s S F w := hR
          obtain ⟨es, clock, hg, h1, h2, hv, h5, h6⟩ := hR.each _ (getM_mem hm)
          obtain ⟨hvals, hvr⟩ := reps_uniq (us := []) hv (fun x hx => List.all_eq_true.1 hvs x hx)
          obtain ⟨es', clock', hrun, r1, r2, r3, r4⟩ := update_run (x := v) hu hkt hg h1 hvals hkk hks h5 h6
          have hgl : g < w.heap.size := (Array.getElem?_eq_some_iff.1 hg).1
          have hFg : F g := (hR.dom g).2 ⟨_, getM_mem hm, rfl⟩
          have hoth : ∀ b, b ≠ g → (w.heap.setIfInBounds g (.map es' clock'))[b]? = w.heap[b]? := fun b hb => by rw [Array.getElem?_setIfInBounds]; simp [Ne.symm hb]
          have hnew : (w.heap.setIfInBounds g (.map es' clock'))[g]? = some (.map es' clock') := by rw [Array.getElem?_setIfInBounds]; simp [hgl]
          have hSo : ∀ b, S b → (w.heap.setIfInBounds g (.map es' clock'))[b]? = w.heap[b]? := fun b hb => hoth b fun e => hSF g hFg (e ▸ hb)
          refine ⟨{ w with heap := w.heap.setIfInBounds g (.map es' clock') }, ?_, ⟨rfl, rfl, rfl, by simp, fun b _ hb => hoth b fun e => hb (e ▸ hFg)⟩, by simp, ?_⟩
          · rw [hk'.val (keyB_uniq hkk), hx'.val hvu]; exact hrun
          · refine ⟨fun b => ?_, by rw [putM_fst]; exact hR.nodup, fun q hq => ?_⟩
            · rw [hR.dom]
              have := putM_fst (g := g) (ks := mkeys k m.1) (vs := mvals k v m.1 m.2) s
              constructor
              · rintro ⟨q, hq, rfl⟩
                have h : q.1 ∈ (putM g (mkeys k m.1) (mvals k v m.1 m.2) s).map (·.1) := by rw [this]; exact List.mem_map_of_mem hq
                obtain ⟨q', h1, h2⟩ := List.mem_map.1 h
                exact ⟨q', h1, h2⟩
              · rintro ⟨q, hq, rfl⟩
                have h : q.1 ∈ s.map (·.1) := by rw [← this]; exact List.mem_map_of_mem hq
                obtain ⟨q', h1, h2⟩ := List.mem_map.1 h
                exact ⟨q', h1, h2⟩
            · rcases putM_mem hR.nodup hq with rfl | ⟨hq1, hq2⟩
              · refine ⟨es', clock', hnew, r1, fun x hx => ?_, ?_, r3, r4⟩
                · rcases mkeys_mem hx with rfl | h
                  · exact keyB_uniq hkk
                  · exact h2 x h
                · rw [r2]
                  refine reps_map fun x hx => ?_
                  rcases mvals_mem hx with rfl | h
                  · exact rep_toVal hvu hvc
                  · exact (hvr x h).of_flat (uniq_flat x (List.all_eq_true.1 hvs x h))
              · exact (hR.each q hq1).move (fun _ h => h) hSo (hoth _ hq2)
        · cases he
      · cases he
    · rw [if_neg hU] at he ⊢
      by_cases hN : f = NILC
      · rw [if_pos hN] at he ⊢
        split at he
        · simp only [Option.some.injEq, Prod.mk.injEq] at he
          obtain ⟨rfl, rfl⟩ := he
          exact ⟨rfl, _, rfl, rfl⟩
        · cases he
      · rw [if_neg hN] at he ⊢
        exact hcf s f zs y s' he hL hU hN
/-- One map more, at a block that held none. -/
def addM (s : Maps) (g : Nat) (ks vs : List V) : Option Maps := if (getM g s).isNone = true then some ((g, ks, vs) :: s) else none
theorem mapsR_ad {cf : Maps → Nat → List V → Option (V × Maps)} : AdOK (mapsR P cf) addM := by
  intro s S F w g ks vs es clock hR hg hh h1 h2 h3 h4 h5 h6 h7
  have hR : MapsOK s S F w := hR
  have hnone : getM g s = none := by
    cases h : getM g s with
    | none => rfl
    | some m => exact absurd ((hR.dom g).2 ⟨_, getM_mem h, rfl⟩) hg
  refine ⟨(g, ks, vs) :: s, by simp [addM, hnone], fun b => ⟨fun h => ?_, fun ⟨p, hp, e⟩ => ?_⟩, ?_, fun p hp => ?_⟩
  · rcases h with h | h
    · obtain ⟨p, hp, e⟩ := (hR.dom b).1 h
      exact ⟨p, List.mem_cons_of_mem _ hp, e⟩
    · exact ⟨_, List.mem_cons_self .., h.symm⟩
  · rcases List.mem_cons.1 hp with rfl | hp
    · exact .inr e.symm
    · exact .inl ((hR.dom b).2 ⟨p, hp, e⟩)
  · rw [List.map_cons, List.nodup_cons]
    refine ⟨fun h => ?_, hR.nodup⟩
    obtain ⟨p, hp, e⟩ := List.mem_map.1 h
    exact hg ((hR.dom g).2 ⟨p, hp, e⟩)
  · rcases List.mem_cons.1 hp with rfl | hp
    · exact ⟨es, clock, hh, h1, h3, by rw [h2]; exact reps_map fun x hx => rep_toVal (h4 x hx) (h5 x hx), h6, h7⟩
    · exact hR.each p hp
theorem mapsR_start {cf : Maps → Nat → List V → Option (V × Maps)} (S : Nat → Prop) (w : World) : (mapsR P cf).R [] S (fun _ => False) w := ⟨fun b => ⟨fun h => h.elim, fun ⟨p, hp, _⟩ => by cases hp⟩, List.nodup_nil, fun p hp => by cases hp⟩
end
/-! ### The code, stretch by stretch -/
section
variable {σ : Type} {ρ : Rs σ} {ad : σ → Nat → List V → List V → Option σ} {P : Program} {o : Orc} {env env1 : Env} {s s1 : σ} {K : Ex → Env → σ → Prop}
theorem WG.seqC {x : C} {b : NG} (h : exec o x env = some (.n, env1)) (hW : WG ρ ad P o b env1 s K) : WG ρ ad P o (.seq (.c x) b) env s K := ⟨_, _, h, hW⟩
theorem WG.seqX {x : C} {b : NG} {e : Ex} (h : exec o x env = some (e, env1)) (he : e ≠ .n) (hW : K e env1 s) : WG ρ ad P o (.seq (.c x) b) env s K := by
  refine ⟨_, _, h, ?_⟩
  cases e with
  | n => exact absurd rfl he
  | e j => exact hW
  | r => exact hW
theorem WG.endC {x : C} {e : Ex} (h : exec o x env = some (e, env1)) (hW : K e env1 s) : WG ρ ad P o (.c x) env s K := ⟨_, _, h, hW⟩
theorem WG.seqL {ss : List RSt} {ks : List Nat} {b : NG} (h : stepsR ρ o ss env s = some (env1, s1)) (hW : WG ρ ad P o b (dropE ks env1) s1 K) : WG ρ ad P o (.seq (.lin ss ks) b) env s K := ⟨_, _, h, hW⟩
theorem WG.seq' {a b : NG} (h : WG ρ ad P o a env s fun e env1 s1 => match e with
    | .n => WG ρ ad P o b env1 s1 K
    | .e j => K (.e j) env1 s1
    | .r => K .r env1 s1) : WG ρ ad P o (.seq a b) env s K := h
theorem WG.blk' {id : Nat} {a : NG} (h : WG ρ ad P o a env s fun e env1 s1 => match e with
    | .e j => if j = id then K .n env1 s1 else K (.e j) env1 s1
    | .n => K .n env1 s1
    | .r => K .r env1 s1) : WG ρ ad P o (.blk id a) env s K := h
theorem WG.condT {x : X} {a b : NG} (h : evalX o env x = some (.b true)) (hW : WG ρ ad P o a env s K) : WG ρ ad P o (.cond x a b) env s K := ⟨true, h, hW⟩
theorem WG.condF {x : X} {a b : NG} (h : evalX o env x = some (.b false)) (hW : WG ρ ad P o b env s K) : WG ρ ad P o (.cond x a b) env s K := ⟨false, h, hW⟩
end
end Go.VM
/-
  Stretches of code that are walked by hand beside those that the evaluator carries out; maps whose entries are any values. No program is named here.
-/
namespace Go.VM
open Go.RowKit
variable [Glob]

section
variable {P : Program}
/-- A region that draws its order, by what holds of the world and the frame once some operations have been carried out. -/
theorem walkI {opsL : List Oper} {Q : Exit → Act → World → Prop} (Inv : Array Bool → Act → World → Prop)
    (hwt : ∀ (i : Nat) op, opsL[i]? = some op → ∀ l : Array Bool, l.size = opsL.length → ¬ Ex1 l i → (∀ j ∈ aft op, Ex1 l j) → (∀ (k : Nat) op', opsL[k]? = some op' → Ex1 l k → ∀ j ∈ aft op', Ex1 l j) → ∀ a w, Inv l a w →
      Region.wanted op (yielded opsL.toArray a.tmps) = true ∧ Outc P ((execOp a.eval op).run P w) fun u w1 => Inv (l.setIfInBounds i true) (a.put op.dst u) w1)
    (hacy : ∀ (i : Nat) op, opsL.toArray[i]? = some op → ∀ j ∈ aft op, j < i) :
    ∀ (fuel : Nat) (listed : Array Bool) (a : Act) (w : World), listed.size = opsL.length → left1 listed ≤ fuel → (∀ (k : Nat) op', opsL[k]? = some op' → Ex1 listed k → ∀ j ∈ aft op', Ex1 listed j) → Inv listed a w →
      (∀ l a' w', (∀ i, i < opsL.length → Ex1 l i) → Inv l a' w' → Q .normal a' w') → wpAny P .any opsL.toArray Q fuel listed a w := by
  intro fuel
  induction fuel with
  | zero =>
    intro listed a w hs hleft hcl hF hQ
    have hall : ∀ i, i < opsL.length → Ex1 listed i := fun i hi => all_of_left (by omega) i (by omega)
    refine ⟨?_, hQ listed a w hall hF⟩
    cases hr : Region.ready .any opsL.toArray listed with
    | nil => rfl
    | cons i r =>
      obtain ⟨op, hop, hne, _⟩ := mem_ready (by simpa using hs) (show i ∈ Region.ready .any opsL.toArray listed by rw [hr]; exact List.mem_cons_self ..)
      exact absurd (hall i (by have := (Array.getElem?_eq_some_iff.1 hop).1; simpa using this)) hne
  | succ fuel ih =>
    intro listed a w hs hleft hcl hF hQ
    refine ⟨fun hr => hQ listed a w (fun i hi => not_ready (by simpa using hs) hacy hr i (by simpa using hi)) hF, fun i hi => ?_⟩
    obtain ⟨op, hop, hne, haft⟩ := mem_ready (by simpa using hs) hi
    have hop' : opsL[i]? = some op := by simpa using hop
    have hil : i < opsL.length := (List.getElem?_eq_some_iff.1 hop').1
    have his : i < listed.size := by omega
    obtain ⟨hw, hout⟩ := hwt i op hop' listed hs hne haft hcl a w hF
    have next : ∀ u w1, Inv (listed.setIfInBounds i true) (a.put op.dst u) w1 → wpAny P .any opsL.toArray Q fuel (listed.setIfInBounds i true) (a.put op.dst u) w1 := by
      intro u w1 h
      refine ih _ _ w1 (by simpa using hs) ?_ (fun k op' hk hek j hj => ?_) h hQ
      · have := left1_set his hne; omega
      · refine (ex1_set his j).2 (.inr ?_)
        rcases (ex1_set his k).1 hek with rfl | h
        · rw [hop'] at hk; cases hk; exact haft j hj
        · exact hcl k op' hk h j hj
    unfold wpOp
    rw [hop]
    simp only
    rw [if_pos hw]
    left
    refine Outc.wp ?_
    revert hout
    generalize (execOp a.eval op).run P w = res
    intro hout
    unfold Outc at hout ⊢
    split at hout
    · exact next _ _ hout
    · exact next _ _ hout
    · exact hout.mono fun e w1 ⟨u, he, h⟩ => ⟨u, he, next _ _ h⟩
    · exact hout.elim
theorem regI (hm : P.follows .mixedOrders = true) {id : Nat} {ops : Array Oper} (Inv : Array Bool → Act → World → Prop)
    (hwt : ∀ (i : Nat) op, ops.toList[i]? = some op → ∀ l : Array Bool, l.size = ops.toList.length → ¬ Ex1 l i → (∀ j ∈ aft op, Ex1 l j) → (∀ (k : Nat) op', ops.toList[k]? = some op' → Ex1 l k → ∀ j ∈ aft op', Ex1 l j) → ∀ a w, Inv l a w →
      Region.wanted op (yielded ops.toList.toArray a.tmps) = true ∧ Outc P ((execOp a.eval op).run P w) fun u w1 => Inv (l.setIfInBounds i true) (a.put op.dst u) w1)
    (hacy : ((List.range ops.size).all fun i => match ops[i]? with | some o => (aft o).all fun j => decide (j < i) | none => false) = true) {a : Act} {w : World}
    (hF : Inv (Array.replicate ops.size false) a { w with drawn := w.drawn + 1 }) {Q : Exit → Act → World → Prop} (hQ : ∀ l a' w', (∀ i, i < ops.size → Ex1 l i) → Inv l a' w' → Q .normal a' w') :
    (Code.region id ops true).wp P Q a w := by
  refine wp_region_any hm ?_
  have hn1 : ∀ k, ¬ Ex1 (Array.replicate ops.size false) k := fun k hk => by
    unfold Ex1 at hk
    simp only [Array.getD_eq_getD_getElem?, Array.getElem?_replicate] at hk
    split at hk <;> simp at hk
  have hleft : left1 (Array.replicate ops.size false) ≤ ops.size := by
    unfold left1
    exact Nat.le_trans (List.countP_le_length ..) (by simp)
  have := walkI (Q := Q) (opsL := ops.toList) Inv hwt (fun i op hop j hj => by
      have hop' : ops[i]? = some op := by simpa using hop
      have := List.all_eq_true.1 hacy i (List.mem_range.2 (Array.getElem?_eq_some_iff.1 hop').1)
      rw [hop'] at this
      simpa using List.all_eq_true.1 this j hj) ops.size (Array.replicate ops.size false) a { w with drawn := w.drawn + 1 } (by simp) hleft
    (fun k _ _ hk => absurd hk (hn1 k)) hF (fun l a' w' hl h => hQ l a' w' (fun i hi => hl i (by simpa using hi)) h)
  simpa using this
end

section
variable {P : Program} {nt : Nat} {keep : List Nat} {S : Nat → Prop} {base : Nat} {wi : World} {env : Env} {a a' : Act} {w : World}
/-- Slots that the frame does not tell of have no say. -/
theorem FI.agree (hF : FI P nt keep S base wi env a w) (hs : a'.tmps.size = nt) (hd : a'.defers = []) (hT : ∀ n x, get n env = some x → tm a' n = tm a n) : FI P nt keep S base wi env a' w := by
  obtain ⟨Im, hI1, hI2, hE⟩ := hF.ents
  have hO : ∀ n c g, Owns env (tm a') n c g → Owns env (tm a) n c g := fun n c g ho => by
    cases c with
    | none =>
      obtain ⟨x, u, hx, h1, h2, h3⟩ := ho
      exact ⟨x, u, hx, h1, (hT n x hx).symm.trans h2, h3⟩
    | some j =>
      obtain ⟨ys, us, y, u, hx, h1, h2⟩ := ho
      exact ⟨ys, us, y, u, hx, (hT n _ hx).symm.trans h1, h2⟩
  refine ⟨hF.srt, hs, hd, hF.below, hF.kept, hF.bsz, hF.keys, Im, hI1, hI2, ⟨fun n x hx => ?_, hE.closed, fun n c n' c' g h h' => hE.apart n c n' c' g (hO _ _ _ h) (hO _ _ _ h'), hE.glob⟩⟩
  obtain ⟨u, hu, he⟩ := hE.ent n x hx
  have hnm : ∀ m, x.names = some m → tm a' m = tm a m := fun m hm => by
    obtain ⟨y, hy, _⟩ := hE.closed n x m hx hm
    exact hT m y hy
  refine ⟨u, (hT n x hx).trans hu, ?_⟩
  cases x with
  | al m => exact (hnm m rfl).trans he
  | pe m i off sz =>
    obtain ⟨ad, l, c, k, h1, h2⟩ := he
    exact ⟨ad, l, c, k, (hnm m rfl).trans h1, h2⟩
  | pb m off sz =>
    obtain ⟨ad, h1, h2⟩ := he
    exact ⟨ad, (hnm m rfl).trans h1, h2⟩
  | _ => exact he

/-! ### Stretches, one behind the other -/
variable {σ : Type} {ρ : Rs σ} {S0 F0 : Nat → Prop} {w00 : World} {gr : Bool} {W1 W2 : Env → σ → (Ex → Env → σ → Prop) → Prop} {c1 c2 : Code}
theorem DoesG.seq (h1 : DoesG ρ P nt keep S0 F0 w00 gr W1 c1) (h2 : DoesG ρ P nt keep S0 F0 w00 gr W2 c2) : DoesG ρ P nt keep S0 F0 w00 gr (fun env s K => W1 env s fun e env1 s1 => match e with
    | .n => W2 env1 s1 K
    | .e j => K (.e j) env1 s1
    | .r => K .r env1 s1) (.seq c1 c2) := by
  intro env s K hW a w hF Q hQ
  refine wp_seq (h1 env s _ hW a w hF _ fun ex env1 s' a1 w1 hK hF1 => ?_)
  cases ex with
  | n => exact h2 env1 s' _ hK a1 w1 hF1 Q hQ
  | e j => exact hQ (.e j) env1 s' a1 w1 hK hF1
  | r => exact hQ .r env1 s' a1 w1 hK hF1
theorem DoesG.blk (id : Nat) (h1 : DoesG ρ P nt keep S0 F0 w00 gr W1 c1) : DoesG ρ P nt keep S0 F0 w00 gr (fun env s K => W1 env s fun e env1 s1 => match e with
    | .e j => if j = id then K .n env1 s1 else K (.e j) env1 s1
    | .n => K .n env1 s1
    | .r => K .r env1 s1) (.block id c1) := by
  intro env s K hW a w hF Q hQ
  refine wp_block (h1 env s _ hW a w hF _ fun ex env1 s' a1 w1 hK hF1 => ?_)
  cases ex with
  | n => exact hQ .n env1 s' a1 w1 hK hF1
  | e j =>
    show Exit.inBlock id Q (.exit j) a1 w1
    simp only [Exit.inBlock]
    simp only at hK
    by_cases hj : j = id
    · rw [if_pos hj] at hK ⊢; exact hQ .n env1 s' a1 w1 hK hF1
    · rw [if_neg hj] at hK ⊢; exact hQ (.e j) env1 s' a1 w1 hK hF1
  | r => exact hQ .r env1 s' a1 w1 hK hF1
/-- A loop of just so many rounds, by what holds ahead of each. -/
theorem DoesG.loop (kin : List Nat) (h1 : DoesG ρ P nt keep S0 F0 w00 gr W1 c1) : DoesG ρ P nt keep S0 F0 w00 gr (fun env s K => ∃ (I : Nat → Env → σ → Prop) (n : Nat), I n env s ∧ ∀ n env s, I n env s → W1 (VM.keepE kin env) s fun e env1 s1 => match e with
    | .n => ∃ k, n = k + 1 ∧ I k env1 s1
    | .e j => K (.e j) env1 s1
    | .r => K .r env1 s1) (.loop c1) := by
  rintro env s K ⟨I, n, hI, hI2⟩ a w hF Q hQ
  refine wp_loop_rounds (n + 1) ?_
  induction n generalizing env s a w with
  | zero =>
    refine h1 _ s _ (hI2 0 env s hI) a w (hF.keepE _) _ fun ex env1 s' a1 w1 hK hF1 => ?_
    cases ex with
    | n => obtain ⟨k, hk, _⟩ := hK; omega
    | e j => exact hQ (.e j) env1 s' a1 w1 hK hF1
    | r => exact hQ .r env1 s' a1 w1 hK hF1
  | succ n ih =>
    refine h1 _ s _ (hI2 (n + 1) env s hI) a w (hF.keepE _) _ fun ex env1 s' a1 w1 hK hF1 => ?_
    cases ex with
    | n =>
      obtain ⟨k, hk, hI'⟩ := hK
      obtain rfl : n = k := by omega
      exact ih env1 s' hI' a1 w1 hF1
    | e j => exact hQ (.e j) env1 s' a1 w1 hK hF1
    | r => exact hQ .r env1 s' a1 w1 hK hF1
end

/-! ### Maps whose entries are any values -/
section
variable {P : Program} {w : World}
/-- A key among keys: where it stands, and what a store there leaves. -/
theorem find_put {kt : Nat} {k : V} (hk : keyB kt k = true) : ∀ {ks vs : List V} {es : List MapEntry} (i : Nat), es.map (·.key) = ks.map V.toVal → es.length = vs.length → ks.all (keyB kt) = true →
    (mfind k ks vs = none ∧ Instr.findNow (keyDesc kt) k.toVal es i = some none ∧ mkeys k ks = ks ++ [k] ∧ ∀ x, mvals k x ks vs = vs ++ [x]) ∨
    ∃ (j : Nat) (e : MapEntry) (r : V), mfind k ks vs = some r ∧ Instr.findNow (keyDesc kt) k.toVal es i = some (some (i + j, e.val)) ∧ es[j]? = some e ∧ vs[j]? = some r ∧ ks[j]? = some k ∧ mkeys k ks = ks ∧ ∀ x, mvals k x ks vs = vs.set j x
  | [], [], [], i, _, _, _ => .inl ⟨rfl, rfl, rfl, fun _ => rfl⟩
  | x :: ks, y :: vs, e :: es, i, h1, h2, h3 => by
    simp only [List.map_cons, List.cons.injEq] at h1
    simp only [List.length_cons, Nat.add_right_cancel_iff] at h2
    simp only [List.all_cons, Bool.and_eq_true] at h3
    have hs := sameNow_eq hk h3.1
    cases hq : keyEq k x with
    | true =>
      have := keyEq_eq hk h3.1 hq
      subst this
      refine .inr ⟨0, e, y, by simp [mfind, hq], ?_, rfl, rfl, rfl, by simp [mkeys, hq], fun z => by simp [mvals, hq]⟩
      simp only [Instr.findNow, h1.1, hs, hq, Nat.add_zero]
    | false =>
      have hm : mfind k (x :: ks) (y :: vs) = mfind k ks vs := by simp [mfind, hq]
      have hf : Instr.findNow (keyDesc kt) k.toVal (e :: es) i = Instr.findNow (keyDesc kt) k.toVal es (i + 1) := by simp only [Instr.findNow, h1.1, hs, hq]
      rw [hm, hf]
      rcases find_put hk (i + 1) h1.2 h2 h3.2 with ⟨g1, g2, g3, g4⟩ | ⟨j, e', r, g1, g2, g3, g4, g5, g6, g7⟩
      · exact .inl ⟨g1, g2, by simp [mkeys, hq, g3], fun z => by simp [mvals, hq, g4]⟩
      · exact .inr ⟨j + 1, e', r, g1, by rw [g2]; congr 3; omega, g3, g4, g5, by simp [mkeys, hq, g6], fun z => by simp [mvals, hq, g7]⟩
  | [], y :: vs, [], i, _, h2, _ => by simp at h2
  | [], _, e :: es, i, h1, _, _ => by simp at h1
  | x :: ks, _, [], i, h1, _, _ => by simp at h1
  | x :: ks, [], e :: es, i, _, h2, _ => by simp at h2
/-- What stands at a key behind a store. -/
theorem mfind_put {kt : Nat} {k k' x : V} (hk : keyB kt k = true) (hk' : keyB kt k' = true) : ∀ {ks vs : List V}, ks.length = vs.length → ks.all (keyB kt) = true → mfind k' (mkeys k ks) (mvals k x ks vs) = if keyEq k' k = true then some x else mfind k' ks vs
  | [], [], _, _ => by simp only [mkeys, mvals, mfind]
  | y :: ks, z :: vs, h, h3 => by
    simp only [List.all_cons, Bool.and_eq_true] at h3
    simp only [List.length_cons, Nat.add_right_cancel_iff] at h
    cases hq : keyEq k y with
    | true =>
      have := keyEq_eq hk h3.1 hq
      subst this
      simp only [mkeys, mvals, hq, if_true, mfind]
      split <;> simp_all
    | false =>
      have ih := mfind_put (x := x) hk hk' h h3.2
      simp only [mkeys, mvals, hq, Bool.false_eq_true, if_false, mfind]
      rw [ih]
      cases h1 : keyEq k' y with
      | true =>
        have := keyEq_eq hk' h3.1 h1
        subst this
        have hne : keyEq k' k = false := by
          cases h2 : keyEq k' k with
          | false => rfl
          | true =>
            have := keyEq_eq hk' hk h2
            subst this
            rw [h1] at hq; cases hq
        simp [hne]
      | false => simp
  | [], z :: vs, h, _ => by simp at h
  | y :: ks, [], h, _ => by simp at h
theorem mkeys_all {kt : Nat} {k : V} (hk : keyB kt k = true) : ∀ {ks : List V}, ks.all (keyB kt) = true → (mkeys k ks).all (keyB kt) = true
  | [], _ => by simp [mkeys, hk]
  | y :: ks, h => by
    simp only [List.all_cons, Bool.and_eq_true] at h
    simp only [mkeys]
    split
    · simp [h.1, h.2]
    · simp [h.1, mkeys_all hk h.2]
theorem mlen_put {k x : V} : ∀ {ks vs : List V}, ks.length = vs.length → (mkeys k ks).length = (mvals k x ks vs).length
  | [], [], _ => rfl
  | y :: ks, z :: vs, h => by
    simp only [List.length_cons, Nat.add_right_cancel_iff] at h
    simp only [mkeys, mvals]
    split
    · simp [h]
    · have := mlen_put (k := k) (x := x) h
      simp [this]
  | [], z :: vs, h => by simp at h
  | y :: ks, [], h => by simp at h
/-- A store of any value into a map. -/
theorem updG_run {t k0 e : TypeId} {kt : Nat} (ht : P.underlying t = some (.map k0 e)) (hkt : keyTy P k0 = some kt) {g : Nat} {es : Array MapEntry} {clock : Nat} (hg : w.heap[g]? = some (.map es clock))
    {ks vs : List V} (h1 : es.toList.map (·.key) = ks.map V.toVal) (h2 : es.toList.length = vs.length) {k : V} (hk : keyB kt k = true) (h3 : ks.all (keyB kt) = true) (h7 : (es.toList.map (·.born)).Nodup) (h8 : ∀ x ∈ es.toList, x.born < clock) (v : Value) (x : V) :
    ∃ (es' : Array MapEntry) (clock' : Nat), (Instr.mapUpdate t (.map (some g)) k.toVal v).run P w = .ok () { w with heap := w.heap.setIfInBounds g (.map es' clock') } ∧
      es'.toList.map (·.key) = (mkeys k ks).map V.toVal ∧ es'.toList.length = (mvals k x ks vs).length ∧ (es'.toList.map (·.born)).Nodup ∧ (∀ x ∈ es'.toList, x.born < clock') ∧
      ((mfind k ks vs = none ∧ es'.toList.map (·.val) = es.toList.map (·.val) ++ [v] ∧ mvals k x ks vs = vs ++ [x]) ∨ ∃ j, j < es.toList.length ∧ (∃ e r, es.toList[j]? = some e ∧ vs[j]? = some r ∧ mfind k ks vs = some r ∧ Instr.findNow (keyDesc kt) k.toVal es.toList 0 = some (some (j, e.val))) ∧ es'.toList.map (·.val) = (es.toList.map (·.val)).set j v ∧ mvals k x ks vs = vs.set j x) := by
  have hf : ∀ r, Instr.findNow (keyDesc kt) k.toVal es.toList 0 = some r → (Instr.findKey k0 k.toVal es.toList).run P w = .ok r w := fun r hr => by
    unfold Instr.findKey
    simp only [Sem.run_bind, run_underlying (keyTy_desc hkt), Result.andThen_ok, hr, Sem.run_pure]
  rcases find_put hk 0 h1 h2 h3 with ⟨r1, r2, r3, r4⟩ | ⟨j, en, r, r1, r2, r3, r4, r5, r6, r7⟩
  · refine ⟨es.push { key := k.toVal, val := v, born := clock }, clock + 1, ?_, ?_, ?_, ?_, fun y hy => ?_, .inl ⟨r1, by simp, r4 x⟩⟩
    · unfold Instr.mapUpdate
      simp only [Sem.run_bind, run_underlying ht, Result.andThen_ok, getMap_run hg, checkKey_run hkt _ hk, hf _ r2, setMap_run _ hg]
    · simp [r3, h1]
    · rw [r4]; simpa using h2
    · simp only [Array.toList_push, List.map_append, List.map_cons, List.map_nil]
      refine List.nodup_append.2 ⟨h7, by simp, fun a ha b hb => ?_⟩
      obtain ⟨z, hz, rfl⟩ := List.mem_map.1 ha
      simp only [List.mem_singleton] at hb
      have := h8 z hz
      omega
    · simp only [Array.toList_push, List.mem_append, List.mem_singleton] at hy
      rcases hy with hy | rfl
      · have := h8 y hy; omega
      · exact Nat.lt_succ_self _
  · rw [Nat.zero_add] at r2
    have hlt : j < es.toList.length := (List.getElem?_eq_some_iff.1 r3).1
    have hlt' : j < es.size := by simpa using hlt
    have hkey : es[j].key = k.toVal := by
      have := congrArg (fun l => l[j]?) h1
      simp only [List.getElem?_map, r5, Option.map_some] at this
      simpa [hlt'] using this
    have hbn : (es.modify j fun e => { e with key := k.toVal, val := v }).toList.map (·.born) = es.toList.map (·.born) := by
      apply List.ext_getElem?
      intro i
      simp only [List.getElem?_map, Array.getElem?_toList, Array.getElem?_modify]
      by_cases hi : j = i
      · subst hi; simp [hlt']
      · simp [hi]
    refine ⟨es.modify j fun e => { e with key := k.toVal, val := v }, clock, ?_, ?_, ?_, by rw [hbn]; exact h7, fun y hy => ?_, .inr ⟨j, hlt, ⟨en, r, r3, r4, r1, r2⟩, ?_, r7 x⟩⟩
    · unfold Instr.mapUpdate
      simp only [Sem.run_bind, run_underlying ht, Result.andThen_ok, getMap_run hg, checkKey_run hkt _ hk, hf _ r2]
      have : ((es[j]?).map (·.key)).getD k.toVal = k.toVal := by simp [hlt', hkey]
      rw [this]
      simp only [Instr.keyThatStays, sameBits_refl hk, if_true, Sem.run_pure, Result.andThen_ok, setMap_run _ hg]
    · rw [r6, ← h1]
      apply List.ext_getElem?
      intro i
      simp only [List.getElem?_map, Array.getElem?_toList, Array.getElem?_modify]
      by_cases hi : j = i
      · subst hi; simp [hlt', hkey]
      · simp [hi]
    · rw [r7]; simpa using h2
    · have hy' : y.born ∈ es.toList.map (·.born) := by rw [← hbn]; exact List.mem_map.2 ⟨y, hy, rfl⟩
      obtain ⟨z, hz, he⟩ := List.mem_map.1 hy'
      have := h8 z hz
      omega
    · apply List.ext_getElem?
      intro i
      simp only [List.getElem?_map, Array.getElem?_toList, Array.getElem?_modify, List.getElem?_set]
      by_cases hi : j = i
      · subst hi; simp [hlt']
      · simp [hi]
end
end Go.VM
