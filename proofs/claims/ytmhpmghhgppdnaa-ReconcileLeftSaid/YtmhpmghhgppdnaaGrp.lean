/-
  A map of rows: looked into, and a row grown.
-/
import Derived.Test.YtmhpmghhgppdnaaGrow2
import Derived.Test.YtmhpmghhgppdnaaTab
namespace Go.Proofs.Ytmhpmghhgppdnaa
open Go.VM Go.RowKit
/-- A map of rows, each in a block of its own, all of them in B. -/
structure Grp (w : World) (g : Nat) (ks vs : List V) (B : Nat → Prop) (es : Array MapEntry) (clock : Nat) : Prop where
  here : w.heap[g]? = some (.map es clock)
  keys : es.toList.map (·.key) = ks.map V.toVal
  uniq : ∀ x ∈ ks, x.uniq = true
  len : es.toList.length = vs.length
  row : ∀ (j : Nat) (u : Value) (x : V), (es.toList.map (·.val))[j]? = some u → vs[j]? = some x → ∃ r : List Int, x = .l (ints r) ∧ RowOf w u r
  blk : ∀ (j : Nat) (u : Value) (b : Nat), (es.toList.map (·.val))[j]? = some u → blkOf u = some b → B b
  apart : ∀ (i j : Nat) (u u' : Value) (b : Nat), i ≠ j → (es.toList.map (·.val))[i]? = some u → (es.toList.map (·.val))[j]? = some u' → blkOf u = some b → blkOf u' ≠ some b
  nodup : (es.toList.map (·.born)).Nodup
  born : ∀ x ∈ es.toList, x.born < clock
section
variable {w w' w0 w1 : World} {g : Nat} {ks vs : List V} {B : Nat → Prop} {es : Array MapEntry} {clock : Nat} {v v' : Value} {r : List Int} {i : Int} {k : V} {kt : Nat} {t k0 : TypeId}
theorem RowOf.loc (h : RowOf w v r) (hb : ∀ b, blkOf v = some b → w'.heap[b]? = w.heap[b]?) : RowOf w' v r := by
  refine ⟨h.1, ?_⟩
  rcases h.2 with h1 | ⟨g, cap, cur, rfl, h1, hh, h2⟩
  · exact .inl h1
  · exact .inr ⟨g, cap, cur, rfl, h1, (hb g rfl).trans hh, h2⟩
theorem RowOf.lt (h : RowOf w v r) {b : Nat} (hb : blkOf v = some b) : b < w.heap.size := by
  rcases h.2 with ⟨rfl, _⟩ | ⟨g, cap, cur, rfl, _, hh, _⟩
  · cases hb
  · cases hb; exact (Array.getElem?_eq_some_iff.1 hh).1
theorem Grp.loc (h : Grp w g ks vs B es clock) (hg : w'.heap[g]? = w.heap[g]?) (hB : ∀ b, B b → w'.heap[b]? = w.heap[b]?) : Grp w' g ks vs B es clock :=
  ⟨hg.trans h.here, h.keys, h.uniq, h.len, fun j u x hu hx => by
    obtain ⟨r, h1, h2⟩ := h.row j u x hu hx
    exact ⟨r, h1, h2.loc fun b hb => hB b (h.blk j u b hu hb)⟩, h.blk, h.apart, h.nodup, h.born⟩
theorem zero26 (w : World) : (zeroValue 26).run Try.prog w = .ok (.slice none 0 0) w := by
  obtain ⟨zv, h1, h2⟩ := zeroV_rep z26
  have h3 : (Try.prog.info? 26).bind (·.zero) = some (.slice none 0 0) := by kernel_rfl
  cases hi : Try.prog.info? 26 with
  | none => rw [hi] at h3; cases h3
  | some it =>
    rw [hi] at h3
    simp only [Option.bind_some] at h3
    simp [zeroValue, typeInfo, hi, h3]
/-- The row at a key. -/
theorem Grp.look (h : Grp w0 g ks vs B es clock) (ht : Try.prog.underlying t = some (.map k0 26)) (hkt : keyTy Try.prog k0 = some kt) (hk : keyB kt k = true) (h3 : ks.all (keyB kt) = true) :
    ∃ v r, (∀ w : World, w.heap[g]? = w0.heap[g]? → (Instr.lookup t (.map (some g)) k.toVal false).run Try.prog w = .ok v w) ∧ RowOf w0 v r ∧ (mfind k ks vs).getD (.l []) = .l (ints r) ∧ (∀ b, blkOf v = some b → B b) ∧
      ((mfind k ks vs = none ∧ v = .slice none 0 0) ∨ ∃ j e, Instr.findNow (keyDesc kt) k.toVal es.toList 0 = some (some (j, v)) ∧ es.toList[j]? = some e ∧ e.val = v ∧ vs[j]? = some (.l (ints r))) := by
  have hf : ∀ (w : World) r, Instr.findNow (keyDesc kt) k.toVal es.toList 0 = some r → (Instr.findKey k0 k.toVal es.toList).run Try.prog w = .ok r w := fun w r hr => by
    unfold Instr.findKey
    simp only [Sem.run_bind, run_underlying (keyTy_desc hkt), Result.andThen_ok, hr, Sem.run_pure]
  rcases find_put hk 0 h.keys h.len h3 with ⟨hm, hn, _⟩ | ⟨j, en, x, hm, hn, hj, hr, _⟩
  · refine ⟨.slice none 0 0, [], fun w hw => ?_, ⟨rfl, .inl ⟨rfl, rfl⟩⟩, by rw [hm]; rfl, fun b hb => (by cases hb), .inl ⟨hm, rfl⟩⟩
    unfold Instr.lookup
    simp only [Sem.run_bind, run_underlying ht, Result.andThen_ok, getMap_run (hw.trans h.here), Sem.run_pure, checkKey_run hkt _ hk, hf _ _ hn, zero26]
    simp
  · rw [Nat.zero_add] at hn
    have hu : (es.toList.map (·.val))[j]? = some en.val := by rw [List.getElem?_map, hj]; rfl
    obtain ⟨r, h1, h2⟩ := h.row j en.val x hu hr
    refine ⟨en.val, r, fun w hw => ?_, h2, by rw [hm]; exact h1, fun b hb => h.blk j _ b hu hb, .inr ⟨j, en, hn, hj, rfl, by rw [hr, h1]⟩⟩
    unfold Instr.lookup
    simp only [Sem.run_bind, run_underlying ht, Result.andThen_ok, getMap_run (hw.trans h.here), Sem.run_pure, checkKey_run hkt _ hk, hf _ _ hn]
    simp
/-- The row at a key grows. -/
theorem Grp.grow (h : Grp w0 g ks vs B es clock) (ht : Try.prog.underlying t = some (.map k0 26)) (hkt : keyTy Try.prog k0 = some kt) (hk : keyB kt k = true) (h3 : ks.all (keyB kt) = true) (hgB : ¬ B g) (hBl : ∀ b, B b → b < w0.heap.size) (hv : ∀ b, blkOf v = some b → B b)
    (hcase : (mfind k ks vs = none ∧ v = .slice none 0 0) ∨ ∃ j e, Instr.findNow (keyDesc kt) k.toVal es.toList 0 = some (some (j, v)) ∧ es.toList[j]? = some e ∧ e.val = v ∧ vs[j]? = some (.l (ints r))) (hgr : Grew w0 w1 v v' r i) :
    ∃ (es' : Array MapEntry) (clock' : Nat) (w2 : World), (Instr.mapUpdate t (.map (some g)) k.toVal v').run Try.prog w1 = .ok () w2 ∧ Grp w2 g (mkeys k ks) (mvals k (.l (ints (r ++ [i]))) ks vs) (fun b => B b ∨ blkOf v' = some b) es' clock' ∧
      w2.heap.size = w1.heap.size ∧ (∀ b, b ≠ g → w2.heap[b]? = w1.heap[b]?) ∧ w2.os = w1.os ∧ w2.tape = w1.tape ∧ w2.output = w1.output := by
  have hgl : g < w0.heap.size := (Array.getElem?_eq_some_iff.1 h.here).1
  have hg1 : w1.heap[g]? = some (.map es clock) := (hgr.block g hgl fun e => hgB (hv g e)).trans h.here
  have hgl1 : g < w1.heap.size := (Array.getElem?_eq_some_iff.1 hg1).1
  obtain ⟨es', clock', hrun, k1, k2, k3, k4, hvals⟩ := updG_run (P := Try.prog) ht hkt hg1 h.keys h.len hk h3 h.nodup h.born v' (.l (ints (r ++ [i])))
  have hoth : ∀ b, b ≠ g → (w1.heap.setIfInBounds g (.map es' clock'))[b]? = w1.heap[b]? := fun b hb => by rw [Array.getElem?_setIfInBounds]; simp [Ne.symm hb]
  have hnew : (w1.heap.setIfInBounds g (.map es' clock'))[g]? = some (.map es' clock') := by rw [Array.getElem?_setIfInBounds]; simp [hgl1]
  have hv'g : ∀ b, blkOf v' = some b → b ≠ g := fun b hb e => by
    rcases hgr.loc b hb with h1 | h1
    · exact hgB (e ▸ hv b h1)
    · omega
  have hrow' : RowOf { w1 with heap := w1.heap.setIfInBounds g (.map es' clock') } v' (r ++ [i]) := hgr.row.loc fun b hb => hoth b (hv'g b hb)
  -- an entry that is not the grown one
  have hkeep : ∀ (j : Nat) (u : Value) (x : V), (es.toList.map (·.val))[j]? = some u → vs[j]? = some x → (∀ b, blkOf u = some b → blkOf v ≠ some b) → ∃ r : List Int, x = .l (ints r) ∧ RowOf { w1 with heap := w1.heap.setIfInBounds g (.map es' clock') } u r := fun j u x hu hx hne => by
    obtain ⟨r, h1, h2⟩ := h.row j u x hu hx
    exact ⟨r, h1, h2.loc fun b hb => (hoth b fun e => hgB (e ▸ h.blk j u b hu hb)).trans (hgr.block b (h2.lt hb) (hne b hb))⟩
  have hnewB : ∀ (j : Nat) (u : Value) (b : Nat), (es.toList.map (·.val))[j]? = some u → blkOf u = some b → (blkOf v = some b → False) → blkOf v' ≠ some b := fun j u b hu hb hne h' => by
    rcases hgr.loc b h' with h1 | h1
    · exact hne h1
    · have := hBl b (h.blk j u b hu hb); omega
  refine ⟨es', clock', _, hrun, ⟨hnew, k1, fun x hx => ?_, k2, ?_, ?_, ?_, k3, k4⟩, by simp, hoth, rfl, rfl, rfl⟩
  · rcases mkeys_mem hx with rfl | h'
    · exact keyB_uniq hk
    · exact h.uniq x h'
  all_goals rcases hvals with ⟨hm, e1, e2⟩ | ⟨j0, hj0, ⟨en, x0, q1, q2, q3, q4⟩, e1, e2⟩
  · -- rows, a key more
    have hvn : v = .slice none 0 0 := by
      rcases hcase with ⟨_, h'⟩ | ⟨j, e, h1, h2, h3', h4⟩
      · exact h'
      · exfalso
        rcases find_put hk 0 h.keys h.len h3 with ⟨_, hn, _⟩ | ⟨j', en, x, hm', _⟩
        · rw [hn] at h1; cases h1
        · rw [hm] at hm'; cases hm'
    intro j u x hu hx
    rw [e1] at hu
    rw [e2] at hx
    have hlen := h.len
    by_cases hj : j < vs.length
    · rw [List.getElem?_append_left (by simpa [hlen] using hj)] at hu
      rw [List.getElem?_append_left hj] at hx
      exact hkeep j u x hu hx fun b _ h' => by rw [hvn] at h'; cases h'
    · rw [List.getElem?_append_right (by simpa [hlen] using hj)] at hu
      rw [List.getElem?_append_right (by omega)] at hx
      have hl1 : (es.toList.map (·.val)).length = vs.length := by simpa using hlen
      rw [hl1] at hu
      cases hq : j - vs.length with
      | zero =>
        rw [hq] at hu hx
        simp only [List.getElem?_cons_zero, Option.some.injEq] at hu hx
        subst hu hx
        exact ⟨_, rfl, hrow'⟩
      | succ m => rw [hq] at hu; simp at hu
  · -- rows, at a key that was there
    have hev : en.val = v := by
      rcases hcase with ⟨h', _⟩ | ⟨j, e, h1, h2, h3', h4⟩
      · rw [q3] at h'; cases h'
      · rw [q4] at h1
        simp only [Option.some.injEq, Prod.mk.injEq] at h1
        exact h1.2
    intro j u x hu hx
    rw [e1, List.getElem?_set] at hu
    rw [e2, List.getElem?_set] at hx
    by_cases hj : j0 = j
    · subst hj
      rw [if_pos rfl] at hu hx
      split at hu
      · split at hx
        · cases hu; cases hx; exact ⟨_, rfl, hrow'⟩
        · cases hx
      · cases hu
    · rw [if_neg hj] at hu hx
      refine hkeep j u x hu hx fun b hb h' => ?_
      have hu0 : (es.toList.map (·.val))[j0]? = some v := by rw [List.getElem?_map, q1, ← hev]; rfl
      exact h.apart j0 j v u b hj hu0 hu h' hb
  · -- blocks, a key more
    intro j u b hu hb
    rw [e1] at hu
    by_cases hj : j < (es.toList.map (·.val)).length
    · rw [List.getElem?_append_left hj] at hu
      exact .inl (h.blk j u b hu hb)
    · rw [List.getElem?_append_right (by omega)] at hu
      cases hq : j - (es.toList.map (·.val)).length with
      | zero =>
        rw [hq] at hu
        simp only [List.getElem?_cons_zero, Option.some.injEq] at hu
        subst hu
        exact .inr hb
      | succ m => rw [hq] at hu; simp at hu
  · intro j u b hu hb
    rw [e1, List.getElem?_set] at hu
    split at hu
    · split at hu
      · cases hu; exact .inr hb
      · cases hu
    · exact .inl (h.blk j u b hu hb)
  · -- apart, a key more
    have hvn : ∀ b, blkOf v = some b → False := fun b hb => by
      rcases hcase with ⟨_, h'⟩ | ⟨j, e, h1, h2, h3', h4⟩
      · rw [h'] at hb; cases hb
      · rcases find_put hk 0 h.keys h.len h3 with ⟨_, hn, _⟩ | ⟨j', en, x, hm', _⟩
        · rw [hn] at h1; cases h1
        · rw [hm] at hm'; cases hm'
    have key : ∀ (j : Nat) (u : Value), (es.toList.map (·.val) ++ [v'])[j]? = some u → (j < (es.toList.map (·.val)).length ∧ (es.toList.map (·.val))[j]? = some u) ∨ (j = (es.toList.map (·.val)).length ∧ u = v') := fun j u hu => by
      by_cases hj : j < (es.toList.map (·.val)).length
      · rw [List.getElem?_append_left hj] at hu; exact .inl ⟨hj, hu⟩
      · rw [List.getElem?_append_right (by omega)] at hu
        cases hq : j - (es.toList.map (·.val)).length with
        | zero =>
          rw [hq] at hu
          simp only [List.getElem?_cons_zero, Option.some.injEq] at hu
          exact .inr ⟨by omega, hu.symm⟩
        | succ m => rw [hq] at hu; simp at hu
    intro a c u u' b hac hu hu' hb hb'
    rw [e1] at hu hu'
    rcases key a u hu with ⟨h1, h2⟩ | ⟨h1, rfl⟩ <;> rcases key c u' hu' with ⟨h1', h2'⟩ | ⟨h1', rfl⟩
    · exact h.apart a c u u' b hac h2 h2' hb hb'
    · exact hnewB a u b h2 hb (hvn b) hb'
    · exact hnewB c u' b h2' hb' (hvn b) hb
    · omega
  · have hev : en.val = v := by
      rcases hcase with ⟨h', _⟩ | ⟨j, e, h1, h2, h3', h4⟩
      · rw [q3] at h'; cases h'
      · rw [q4] at h1
        simp only [Option.some.injEq, Prod.mk.injEq] at h1
        exact h1.2
    have hu0 : (es.toList.map (·.val))[j0]? = some v := by rw [List.getElem?_map, q1, ← hev]; rfl
    have key : ∀ (j : Nat) (u : Value), ((es.toList.map (·.val)).set j0 v')[j]? = some u → (j ≠ j0 ∧ (es.toList.map (·.val))[j]? = some u) ∨ (j = j0 ∧ u = v') := fun j u hu => by
      rw [List.getElem?_set] at hu
      split at hu
      · rename_i hj
        split at hu
        · cases hu; exact .inr ⟨hj.symm, rfl⟩
        · cases hu
      · rename_i hj; exact .inl ⟨fun e => hj e.symm, hu⟩
    intro a c u u' b hac hu hu' hb hb'
    rw [e1] at hu hu'
    rcases key a u hu with ⟨h1, h2⟩ | ⟨h1, rfl⟩ <;> rcases key c u' hu' with ⟨h1', h2'⟩ | ⟨h1', rfl⟩
    · exact h.apart a c u u' b hac h2 h2' hb hb'
    · exact hnewB a u b h2 hb (fun hv' => h.apart j0 a v u b (Ne.symm h1) hu0 h2 hv' hb) hb'
    · exact hnewB c u' b h2' hb' (fun hv' => h.apart j0 c v u' b (Ne.symm h1') hu0 h2' hv' hb') hb
    · omega
end
end Go.Proofs.Ytmhpmghhgppdnaa
