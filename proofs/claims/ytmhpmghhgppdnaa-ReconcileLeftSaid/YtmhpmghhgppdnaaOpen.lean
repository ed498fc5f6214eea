/-
  The table's making: the memory beside its frame, and the two regions in which the indexes grow.
-/
import Derived.Test.YtmhpmghhgppdnaaGrp
namespace Go.Proofs.Ytmhpmghhgppdnaa
open Go.VM Go.RowKit
structure OS where
  gt : Nat
  g1 : Nat
  g2 : Nat
  g3 : Nat
  ks1 : List V
  vs1 : List V
  ks2 : List V
  vs2 : List V
structure OSW (its : List Item) (o : OS) (S F : Nat → Prop) (w : World) (v0 : Value) (ty : TypeId) (B1 B2 : Nat → Prop) (es1 es2 : Array MapEntry) (c1 c2 c3 : Nat) : Prop where
  its : Rep S w v0 (.l (items its))
  here : w.heap[o.gt]? = some (.cells #[v0, .map (some o.g1), .map (some o.g2), .map (some o.g3)] ty (0, 0))
  one : Grp w o.g1 o.ks1 o.vs1 B1 es1 c1
  two : Grp w o.g2 o.ks2 o.vs2 B2 es2 c2
  three : w.heap[o.g3]? = some (.map #[] c3)
  ne : o.gt ≠ o.g1 ∧ o.gt ≠ o.g2 ∧ o.gt ≠ o.g3 ∧ o.g1 ≠ o.g2 ∧ o.g1 ≠ o.g3 ∧ o.g2 ≠ o.g3
  off : ∀ b, B1 b ∨ B2 b → b ≠ o.gt ∧ b ≠ o.g1 ∧ b ≠ o.g2 ∧ b ≠ o.g3 ∧ (w.heap[b]?).isSome = true
  apart : ∀ b, B1 b → ¬ B2 b
  dom : ∀ b, F b ↔ b = o.gt ∨ b = o.g1 ∨ b = o.g2 ∨ b = o.g3 ∨ B1 b ∨ B2 b
theorem heap_lt {w : World} {b : Nat} (h : (w.heap[b]?).isSome = true) : b < w.heap.size := by
  cases hq : w.heap[b]? with
  | none => rw [hq] at h; cases h
  | some x => exact (Array.getElem?_eq_some_iff.1 hq).1
def opR (its : List Item) : Rs (Option OS) where
  R s S F w := match s with
    | none => ∀ b, ¬ F b
    | some o => ∃ v0 ty B1 B2 es1 es2 c1 c2 c3, OSW its o S F w v0 ty B1 B2 es1 es2 c1 c2 c3
  eff := fun _ _ _ => none
  loc := by
    intro s S S' F w w' h hS hw
    cases s with
    | none => exact h
    | some o =>
      obtain ⟨v0, ty, B1, B2, es1, es2, c1, c2, c3, h⟩ := h
      have hF : ∀ b, F b → w'.heap[b]? = w.heap[b]? := fun b hb => hw b (.inr hb)
      exact ⟨v0, ty, B1, B2, es1, es2, c1, c2, c3, h.its.move hS (fun p hp => World.cell?_of_block (hw _ (.inl hp))), (hF _ ((h.dom _).2 (.inl rfl))).trans h.here,
        h.one.loc (hF _ ((h.dom _).2 (.inr (.inl rfl)))) (fun b hb => hF b ((h.dom b).2 (.inr (.inr (.inr (.inr (.inl hb))))))), h.two.loc (hF _ ((h.dom _).2 (.inr (.inr (.inl rfl))))) (fun b hb => hF b ((h.dom b).2 (.inr (.inr (.inr (.inr (.inr hb))))))),
        (hF _ ((h.dom _).2 (.inr (.inr (.inr (.inl rfl)))))).trans h.three, h.ne, fun b hb => by
          obtain ⟨a1, a2, a3, a4, a5⟩ := h.off b hb
          refine ⟨a1, a2, a3, a4, ?_⟩
          rw [hF b ((h.dom b).2 (.inr (.inr (.inr (.inr hb)))))]; exact a5, h.apart, h.dom⟩
  lt := by
    intro s S F w b h hb
    cases s with
    | none => exact absurd hb (h b)
    | some o =>
      obtain ⟨v0, ty, B1, B2, es1, es2, c1, c2, c3, h⟩ := h
      rcases (h.dom b).1 hb with rfl | rfl | rfl | rfl | hb
      · exact (Array.getElem?_eq_some_iff.1 h.here).1
      · exact (Array.getElem?_eq_some_iff.1 h.one.here).1
      · exact (Array.getElem?_eq_some_iff.1 h.two.here).1
      · exact (Array.getElem?_eq_some_iff.1 h.three).1
      · exact heap_lt (h.off b hb).2.2.2.2
/-- What is static about such a region. -/
structure Stat (nt d fi mt kf kty kt k0 : Nat) (ops : Array Oper) : Prop where
  h17 : ops.toList.length = 17
  hop : ops.toList.map (·.op) = (List.range 17).map (opOf d fi mt kf kty)
  hds : ops.toList.map (·.dst) = (List.range 17).map (dstOf d)
  hgd : ops.toList.map (·.guard) = List.replicate 17 none
  haf : ops.toList.map aft = afs
  ht : Try.prog.underlying mt = some (.map k0 26)
  hkt : keyTy Try.prog k0 = some kt
  room : d + 17 ≤ nt ∧ 5 < d
  fi : ∀ (w : World) (ad : Addr), (Instr.fieldAt 61 (.pointer (some ad)) fi).run Try.prog w = .ok (.pointer (some (ad.add fi))) w
  kf : ∀ (w : World) (ad : Addr), (Instr.fieldAt 40 (.pointer (some ad)) kf).run Try.prog w = .ok (.pointer (some (ad.add kf))) w
  mty : isAggB Try.prog mt = false
  kty : (∃ dd, Try.prog.underlying kty = some dd) ∧ isAggB Try.prog kty = false
theorem stat5 : Stat 53 19 1 58 0 9 1 9 (opsN 5).toArray where
  h17 := len5
  hop := op5
  hds := dst5
  hgd := gd5
  haf := aft5
  ht := Try.underlying58
  hkt := by kernel_rfl
  room := by decide
  fi := fun w ad => fieldAt_run (P := Try.prog) Try.underlying61 (i := 1) rfl (by show 0 < Try.prog.cellsOf 58; rw [show Try.prog.cellsOf 58 = 1 from by kernel_rfl]; decide) ad
  kf := fun w ad => fieldAt_run (P := Try.prog) Try.underlying40 (i := 0) rfl (by show 0 < Try.prog.cellsOf 9; rw [show Try.prog.cellsOf 9 = 1 from by kernel_rfl]; decide) ad
  mty := by kernel_rfl
  kty := ⟨⟨_, Try.underlying9⟩, by kernel_rfl⟩
theorem stat6 : Stat 53 35 2 59 2 3 2 3 (opsN 6).toArray where
  h17 := len6
  hop := op6
  hds := dst6
  hgd := gd6
  haf := aft6
  ht := Try.underlying59
  hkt := by kernel_rfl
  room := by decide
  fi := fun w ad => fieldAt_run (P := Try.prog) Try.underlying61 (i := 2) rfl (by show 0 < Try.prog.cellsOf 59; rw [show Try.prog.cellsOf 59 = 1 from by kernel_rfl]; decide) ad
  kf := fun w ad => fieldAt_run (P := Try.prog) Try.underlying40 (i := 2) rfl (by show 0 < Try.prog.cellsOf 3; rw [show Try.prog.cellsOf 3 = 1 from by kernel_rfl]; decide) ad
  mty := by kernel_rfl
  kty := ⟨⟨_, Try.underlying3⟩, by kernel_rfl⟩
theorem grow_code {id nt d fi mt kf kty kt k0 : Nat} {ops : Array Oper} (hst : Stat nt d fi mt kf kty kt k0 ops) {a : Act} {w : World} {gt gm : Nat} {ad : Addr} {i : Int} {k : V} (hk : keyB kt k = true) {ks vs : List V} {B : Nat → Prop} {es : Array MapEntry} {clock : Nat} (hG : Grp w gm ks vs B es clock) (hks : ks.all (keyB kt) = true)
    (hsz : a.tmps.size = nt) (hdf : a.defers = []) (t3 : tm a 3 = some (.pointer (some ⟨gt, 0, none⟩))) (t4 : tm a 4 = some (.int .i64 i)) (t5 : tm a 5 = some (.pointer (some ad))) (cm : w.cell? ((⟨gt, 0, none⟩ : Addr).add fi) = some (.map (some gm))) (ck : w.cell? (ad.add kf) = some k.toVal)
    (hgt : gt < w.heap.size) (had : ad.block < w.heap.size) (hB : ∀ b, B b → b ≠ gt ∧ b ≠ gm ∧ b ≠ ad.block ∧ b < w.heap.size) (hlen : ∀ r, (mfind k ks vs).getD (.l []) = .l (ints r) → (r.length + 1) * 8 ≤ 140737488355328) {Q : Exit → Act → World → Prop}
    (hQ : ∀ a' w2 v' r es' clock', a'.tmps.size = nt → a'.defers = [] → (∀ n, n < d → tm a' n = tm a n) → (mfind k ks vs).getD (.l []) = .l (ints r) → Grp w2 gm (mkeys k ks) (mvals k (.l (ints (r ++ [i]))) ks vs) (fun b => B b ∨ blkOf v' = some b) es' clock' →
      w2.os = w.os → w2.tape = w.tape → w2.output = w.output → w.heap.size ≤ w2.heap.size → (∀ b, b < w.heap.size → b ≠ gm → ¬ B b → w2.heap[b]? = w.heap[b]?) → (∀ b, blkOf v' = some b → (B b ∨ w.heap.size ≤ b) ∧ b < w2.heap.size) → Q .normal a' w2) :
    (Code.region id ops true).wp Try.prog Q a w := by
  obtain ⟨v, r, hlook, hrow, hmf, hvB, hcase⟩ := hG.look hst.ht hst.hkt hk hks
  have hgm : gm < w.heap.size := (Array.getElem?_eq_some_iff.1 hG.here).1
  have hG' : Grp { w with drawn := w.drawn + 1 } gm ks vs B es clock := hG.loc rfl fun _ _ => rfl
  have hgB : ¬ B gm := fun h => (hB gm h).2.1 rfl
  refine grow_region (nt := nt) (d := d) (fi := fi) (mt := mt) (kf := kf) (kty := kty) (gt := gt) (gm := gm) (ad := ad) (i := i) (kv := k.toVal) (v := v) (r := r) hst.h17 hst.hop hst.hds hst.hgd hst.haf ⟨hsz, hdf, hst.room, t3, t4, t5, fun w => hst.fi w _, fun w => hst.kf w _, ⟨⟨_, hst.ht⟩, hst.mty⟩, hst.kty, cm, ck, fun w' hw => hlook w' hw, hrow.loc fun _ _ => rfl, hlen r hmf, ⟨hgt, hgm, had⟩, fun b hb => ⟨(hB b (hvB b hb)).1, (hB b (hvB b hb)).2.1, (hB b (hvB b hb)).2.2.1⟩, fun w' v' hw => ?_⟩ (fun a' w1 w2 v' h1 h2 h3 hg hrun => ?_)
  · obtain ⟨es', clock', hr, _⟩ := updG_run (P := Try.prog) hst.ht hst.hkt (hw.trans hG.here) hG.keys hG.len hk hks hG.nodup hG.born v' (.l [])
    exact ⟨_, hr⟩
  · obtain ⟨es', clock', w2', hrun', hG2, g1, g2, g3, g4, g5⟩ := hG'.grow hst.ht hst.hkt hk hks hgB (fun b hb => (hB b hb).2.2.2) hvB hcase hg
    rw [hrun] at hrun'
    cases hrun'
    refine hQ a' w2 v' r es' clock' h1 h2 h3 hmf hG2 (g3.trans hg.os) (g4.trans hg.tape) (g5.trans hg.output) (by rw [g1]; exact hg.size) (fun b hb hbg hbB => (g2 b hbg).trans (hg.block b hb fun e => hbB (hvB b e))) (fun b hb => ⟨(hg.loc b hb).imp (hvB b) (fun h => h), ?_⟩)
    rw [g1]; exact hg.row.lt hb
end Go.Proofs.Ytmhpmghhgppdnaa
