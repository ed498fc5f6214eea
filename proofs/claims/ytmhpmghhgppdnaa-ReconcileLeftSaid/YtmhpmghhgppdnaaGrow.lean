/-
  The two regions in which the table's indexes grow, walked by hand in whatever order.
-/
import Derived.Test.YtmhpmghhgppdnaaOps
import Derived.Test.YtmhpmghhgppdnaaOrd
import Derived.Test.YtmhpmghhgppdnaaVmW
import Derived.Maps.AppendAt
namespace Go.Proofs.Ytmhpmghhgppdnaa
open Go.VM Go.RowKit
theorem load1_run {P : Program} {w : World} {t : TypeId} {d : TypeDesc} (hd : P.underlying t = some d) (ha : isAggB P t = false) {ad : Addr} {u : Value} (h : w.cell? ad = some u) : (Instr.loadAt t (.pointer (some ad))).run P w = .ok u w := by
  simp only [Instr.loadAt, Instr.sureAddr, Sem.run_bind, Sem.run_pure, Result.andThen_ok, loadVar, isAgg_run hd, ha, Bool.false_eq_true, if_false]
  rw [run_load]
  simp [h]
/-- A slice of numbers of nobody else's. -/
abbrev RowOf (w : World) (v : Value) (r : List Int) : Prop := w.ownsRow 0 3 1 v r.length (r.map fun k => Value.int .i64 k)
section
variable {P : Program} {w : World} {ρ : Operand → Value} {o : Oper}
theorem rn_mv {x : Operand} (ho : o.op = .move x) : (execOp ρ o).run P w = .ok (.value (ρ x)) w := by simp only [execOp, ho, Sem.run_pure]
theorem rn_nil {x : Operand} {ad : Addr} (ho : o.op = .nilCheck x) (hx : ρ x = .pointer (some ad)) : (execOp ρ o).run P w = .ok (.value (.pointer (some ad))) w := by simp only [execOp, ho, hx, Sem.run_pure]
theorem rn_fa {t : TypeId} {f : Nat} {x : Operand} {ad : Addr} {u : Value} (ho : o.op = .fieldAddr t x f) (hx : ρ x = .pointer (some ad)) (hr : (Instr.fieldAt t (.pointer (some ad)) f).run P w = .ok u w) : (execOp ρ o).run P w = .ok (.value u) w := by
  simp only [execOp, ho, hx, Sem.run_bind, hr, Result.andThen_ok, Sem.run_pure]
theorem rn_ld {t : TypeId} {dd : TypeDesc} (hd : P.underlying t = some dd) (ha : isAggB P t = false) {x : Operand} {ad : Addr} {u : Value} (ho : o.op = .load t x) (hx : ρ x = .pointer (some ad)) (hc : w.cell? ad = some u) : (execOp ρ o).run P w = .ok (.value u) w := by
  simp only [execOp, ho, hx, Sem.run_bind, load1_run hd ha hc, Result.andThen_ok, Sem.run_pure]
end
/-- What the frame holds, and what is known of the world ahead of such a region. -/
structure Pre (nt d fi mt kf kty : Nat) (gt gm : Nat) (ad : Addr) (i : Int) (kv v : Value) (r : List Int) (a0 : Act) (w0 : World) : Prop where
  size : a0.tmps.size = nt
  defers : a0.defers = []
  room : d + 17 ≤ nt ∧ 5 < d
  t3 : tm a0 3 = some (.pointer (some ⟨gt, 0, none⟩))
  t4 : tm a0 4 = some (.int .i64 i)
  t5 : tm a0 5 = some (.pointer (some ad))
  hfi : (∀ w : World, (Instr.fieldAt 61 (.pointer (some ⟨gt, 0, none⟩)) fi).run Try.prog w = .ok (.pointer (some ((⟨gt, 0, none⟩ : Addr).add fi))) w)
  hkf : (∀ w : World, (Instr.fieldAt 40 (.pointer (some ad)) kf).run Try.prog w = .ok (.pointer (some (ad.add kf))) w)
  mty : (∃ dd, Try.prog.underlying mt = some dd) ∧ isAggB Try.prog mt = false
  kty : (∃ dd, Try.prog.underlying kty = some dd) ∧ isAggB Try.prog kty = false
  cm : w0.cell? ((⟨gt, 0, none⟩ : Addr).add fi) = some (.map (some gm))
  ck : w0.cell? (ad.add kf) = some kv
  look : ∀ w : World, w.heap[gm]? = w0.heap[gm]? → (Instr.lookup mt (.map (some gm)) kv false).run Try.prog w = .ok v w
  row : RowOf w0 v r
  room2 : (r.length + 1) * 8 ≤ 140737488355328
  blocks : gt < w0.heap.size ∧ gm < w0.heap.size ∧ ad.block < w0.heap.size
  apart : ∀ b, blkOf v = some b → b ≠ gt ∧ b ≠ gm ∧ b ≠ ad.block
  upd : ∀ (w : World) (v' : Value), w.heap[gm]? = w0.heap[gm]? → ∃ w2, (Instr.mapUpdate mt (.map (some gm)) kv v').run Try.prog w = .ok () w2
/-- Behind the append. -/
structure Grew (w0 w1 : World) (v v' : Value) (r : List Int) (i : Int) : Prop where
  os : w1.os = w0.os
  tape : w1.tape = w0.tape
  output : w1.output = w0.output
  size : w0.heap.size ≤ w1.heap.size
  block : ∀ b, b < w0.heap.size → blkOf v ≠ some b → w1.heap[b]? = w0.heap[b]?
  row : RowOf w1 v' (r ++ [i])
  loc : ∀ b, blkOf v' = some b → blkOf v = some b ∨ w0.heap.size ≤ b
section
variable {nt d fi mt kf kty gt gm : Nat} {ad : Addr} {i : Int} {kv v : Value} {r : List Int} {a0 : Act} {w0 : World}
def valG (fi gt gm kf : Nat) (ad : Addr) (i : Int) (kv v : Value) : Nat → Value
  | 0 | 1 | 6 | 7 => .pointer (some ⟨gt, 0, none⟩)
  | 2 | 8 => .pointer (some ((⟨gt, 0, none⟩ : Addr).add fi))
  | 3 | 9 => .map (some gm)
  | 4 | 10 => .pointer (some (ad.add kf))
  | 5 | 11 => kv
  | 12 => v
  | _ => .int .i64 i
/-- What holds once the operations in l have been carried out. -/
structure InvG (nt d fi mt kf gt gm : Nat) (ad : Addr) (i : Int) (kv v : Value) (r : List Int) (a0 : Act) (w0 : World) (l : Array Bool) (a : Act) (w : World) : Prop where
  size : a.tmps.size = nt
  defers : a.defers = []
  low : ∀ n, n < d → tm a n = tm a0 n
  pure : ∀ j, j < 14 → Ex1 l j → tm a (d + j) = some (valG fi gt gm kf ad i kv v j)
  fin : Ex1 l 16 → ∃ w1 v', Grew w0 w1 v v' r i ∧ (Instr.mapUpdate mt (.map (some gm)) kv v').run Try.prog w1 = .ok () w
  os : ¬ Ex1 l 16 → w.os = w0.os ∧ w.tape = w0.tape ∧ w.output = w0.output ∧ w0.heap.size ≤ w.heap.size
  block : ¬ Ex1 l 16 → ∀ b, b < w0.heap.size → blkOf v ≠ some b → w.heap[b]? = w0.heap[b]?
  all : ¬ Ex1 l 15 → ¬ Ex1 l 16 → ∀ b, b < w0.heap.size → w.heap[b]? = w0.heap[b]?
  sz : ¬ Ex1 l 14 → ¬ Ex1 l 15 → ¬ Ex1 l 16 → w.heap.size = w0.heap.size
  one : Ex1 l 14 → tm a (d + 14) = some (.slice (some ⟨w0.heap.size, 0, none⟩) 1 1)
  new : Ex1 l 14 → ¬ Ex1 l 15 → ¬ Ex1 l 16 → w0.heap.size < w.heap.size ∧ ∃ ty, w.heap[w0.heap.size]? = some (.cells #[.int .i64 i] ty (0, 0))
  app : Ex1 l 15 → ¬ Ex1 l 16 → ∃ v', tm a (d + 15) = some v' ∧ Grew w0 w v v' r i
theorem tm_putd {a : Act} {k : Nat} {u : Value} (hk : k < a.tmps.size) (n : Nat) : tm (a.put (some k) u) n = if n = k then some u else tm a n := tm_put hk n
theorem InvG.ev {l : Array Bool} {a : Act} {w : World} (h : InvG nt d fi mt kf gt gm ad i kv v r a0 w0 l a w) {j : Nat} (hj : j < 14) (hl : Ex1 l j) : a.eval (.tmp (d + j)) = valG fi gt gm kf ad i kv v j := eval_tmp (h.pure j hj hl)
/-- A step that only reads. -/
theorem InvG.read (hp : Pre nt d fi mt kf kty gt gm ad i kv v r a0 w0) {l : Array Bool} {a : Act} {w : World} (h : InvG nt d fi mt kf gt gm ad i kv v r a0 w0 l a w) (hl : l.size = 17) {j : Nat} (hj : j < 14) (hn : ¬ Ex1 l 16) : InvG nt d fi mt kf gt gm ad i kv v r a0 w0 (l.setIfInBounds j true) (a.put (some (d + j)) (valG fi gt gm kf ad i kv v j)) w := by
  have hj' : j < l.size := by omega
  have hx : ∀ k, k ≠ j → (Ex1 (l.setIfInBounds j true) k ↔ Ex1 l k) := fun k hk => by
    rw [ex1_set hj']; exact ⟨fun h => h.resolve_left hk, .inr⟩
  have h14 := hx 14 (by omega)
  have h15 := hx 15 (by omega)
  have h16 := hx 16 (by omega)
  have hr := hp.room
  have hda : d + j < a.tmps.size := by rw [h.size]; omega
  refine ⟨by simp [Act.put, h.size], h.defers, fun n hn' => ?_, fun k hk hl' => ?_, fun hf => absurd (h16.1 hf) hn, fun _ => h.os hn, fun _ => h.block hn, fun g _ => h.all (fun g' => g (h15.2 g')) hn, fun g g' _ => h.sz (fun x => g (h14.2 x)) (fun x => g' (h15.2 x)) hn, fun g => ?_, fun g g' _ => h.new (h14.1 g) (fun x => g' (h15.2 x)) hn, fun g _ => ?_⟩
  · rw [tm_putd hda, if_neg (by omega)]; exact h.low n hn'
  · rw [tm_putd hda]
    by_cases hkj : k = j
    · subst hkj; simp
    · rw [if_neg (by omega)]; exact h.pure k hk ((hx k hkj).1 hl')
  · rw [tm_putd hda, if_neg (by omega)]; exact h.one (h14.1 g)
  · obtain ⟨v', hv, hg⟩ := h.app (h15.1 g) hn
    exact ⟨v', by rw [tm_putd hda, if_neg (by omega)]; exact hv, hg⟩
theorem u26 : Try.prog.underlying 26 = some (.slice 3) := Try.underlying26
theorem info3 : (Try.prog.info? 3).map (fun i => (i.zero, i.size, i.bytes)) = some (some (.int .i64 0), 1, 8) := by kernel_rfl
theorem InvG.made (hp : Pre nt d fi mt kf kty gt gm ad i kv v r a0 w0) {l : Array Bool} {a : Act} {w : World} (h : InvG nt d fi mt kf gt gm ad i kv v r a0 w0 l a w) (hl : l.size = 17) (h13 : Ex1 l 13) (hn4 : ¬ Ex1 l 14) (hn5 : ¬ Ex1 l 15) (hn : ¬ Ex1 l 16) {o : Oper} (ho : o.op = .buildSlice 26 1 #[(0, .tmp (d + 13))]) :
    ∃ w1, (execOp a.eval o).run Try.prog w = .ok (.value (.slice (some ⟨w0.heap.size, 0, none⟩) 1 1)) w1 ∧ InvG nt d fi mt kf gt gm ad i kv v r a0 w0 (l.setIfInBounds 14 true) (a.put (some (d + 14)) (.slice (some ⟨w0.heap.size, 0, none⟩) 1 1)) w1 := by
  have hsz := h.sz hn4 hn5 hn
  have hev := h.ev (j := 13) (by omega) h13
  simp only [valG] at hev
  obtain ⟨cells, hc1, hc2, _, hrun⟩ := bsl_run (P := Try.prog) (S := fun _ => True) (w := w) (t := 26) (e := 3) (k := 1) (n := 1) u26 (by kernel_rfl) (by decide) (by kernel_rfl) #[(0, Operand.tmp (d + 13))] rfl a.eval [.i .i64 i] (by
    simp only [List.map_cons, List.map_nil, hev]
    exact Reps.cons (.i _ _) Reps.nil) (by simp [V.cells])
  have hcells : cells = [.int .i64 i] := by
    match cells, hc1, hc2 with
    | [c], hc1, _ =>
      have := hc1.head
      simp only [flatc, List.flatMap_cons, V.cells, List.flatMap_nil, List.append_nil] at hc1
      have h1 := hc1.head
      cases h1
      rfl
  subst hcells
  have hj' : 14 < l.size := by omega
  have hx : ∀ k, k ≠ 14 → (Ex1 (l.setIfInBounds 14 true) k ↔ Ex1 l k) := fun k hk => by
    rw [ex1_set hj']; exact ⟨fun h => h.resolve_left hk, .inr⟩
  have hr := hp.room
  have hda : d + 14 < a.tmps.size := by rw [h.size]; omega
  have hrun' := hrun w
  rw [hsz] at hrun'
  have hold : ∀ b, b < w0.heap.size → (w.alloc (.cells #[.int .i64 i] 3)).heap[b]? = w.heap[b]? := fun b hb => heap_alloc_old w _ (by omega)
  have hnew : (w.alloc (.cells #[.int .i64 i] 3)).heap[w0.heap.size]? = some (.cells #[.int .i64 i] 3 (0, 0)) := by rw [← hsz]; exact heap_alloc_new w _
  obtain ⟨o1, o2, o3, o4⟩ := h.os hn
  refine ⟨w.alloc (.cells #[.int .i64 i] 3), by simp only [execOp, ho, Sem.run_bind]; rw [hrun']; rfl, ⟨by simp [Act.put, h.size], h.defers, fun n hn' => ?_, fun k hk hl' => ?_, fun hf => absurd ((hx 16 (by omega)).1 hf) hn, fun _ => ⟨o1, o2, o3, by simp; omega⟩, fun _ b hb hv => (hold b hb).trans (h.block hn b hb hv), fun g _ b hb => (hold b hb).trans (h.all hn5 hn b hb), fun g => absurd ((ex1_set hj' 14).2 (.inl rfl)) g, fun _ => ?_, fun _ _ _ => ⟨by simp; omega, 3, hnew⟩, fun g => absurd ((hx 15 (by omega)).1 g) hn5⟩⟩
  · rw [tm_putd hda, if_neg (by omega)]; exact h.low n hn'
  · rw [tm_putd hda, if_neg (by omega)]; exact h.pure k hk ((hx k (by omega)).1 hl')
  · rw [tm_putd hda, if_pos rfl]
theorem InvG.apps (hp : Pre nt d fi mt kf kty gt gm ad i kv v r a0 w0) {l : Array Bool} {a : Act} {w : World} (h : InvG nt d fi mt kf gt gm ad i kv v r a0 w0 l a w) (hl : l.size = 17) (h12 : Ex1 l 12) (h14 : Ex1 l 14) (hn5 : ¬ Ex1 l 15) (hn : ¬ Ex1 l 16) {o : Oper} (ho : o.op = .call { callee := .builtin .append, args := #[.tmp (d + 12), .tmp (d + 14)], argTypes := #[26, 26] }) :
    ∃ v' w1, (execOp a.eval o).run Try.prog w = .ok (.value v') w1 ∧ InvG nt d fi mt kf gt gm ad i kv v r a0 w0 (l.setIfInBounds 15 true) (a.put (some (d + 15)) v') w1 := by
  have hev := h.ev (j := 12) (by omega) h12
  simp only [valG] at hev
  have hone : a.eval (.tmp (d + 14)) = .slice (some ⟨w0.heap.size, 0, none⟩) 1 1 := eval_tmp (h.one h14)
  obtain ⟨hlt, ty, hnew⟩ := h.new h14 hn5 hn
  obtain ⟨i0, hi0, hz, hs1, hb1⟩ : ∃ i0, Try.prog.info? 3 = some i0 ∧ i0.zero = some (.int .i64 0) ∧ i0.size = 1 ∧ i0.bytes = 8 := by
    have := info3
    cases hq : Try.prog.info? 3 with
    | none => rw [hq] at this; cases this
    | some i0 =>
      rw [hq] at this
      simp only [Option.map_some, Option.some.injEq, Prod.mk.injEq] at this
      exact ⟨i0, rfl, this.1, this.2.1, this.2.2⟩
  have hrow0 := hp.row
  have hvlt : ∀ b, blkOf v = some b → b < w0.heap.size := fun b hb => by
    rcases hrow0.2 with ⟨rfl, _⟩ | ⟨g, cap, cur, rfl, _, hh, _⟩
    · cases hb
    · cases hb; exact (Array.getElem?_eq_some_iff.1 hh).1
  have hrow : RowOf w v r := by
    refine ⟨hrow0.1, ?_⟩
    rcases hrow0.2 with h1 | ⟨g, cap, cur, rfl, h1, hh, h2⟩
    · exact .inl h1
    · exact .inr ⟨g, cap, cur, rfl, h1, (h.all hn5 hn g (hvlt g rfl)).trans hh, h2⟩
  obtain ⟨v', w1, hrun, how, hg, _, hloc⟩ := run_append_own_at (P := Try.prog) w 0 26 o.type 3 i0 (.int .i64 0) 1 8 u26 hi0 hz hs1 hb1 rfl (by decide) v r.length _ hrow ⟨w0.heap.size, 0, none⟩ 1 1 [.int .i64 i] rfl (fun j u hj => by
    match j, hj with
    | 0, hj =>
      simp only [List.getElem?_cons_zero, Option.some.injEq] at hj
      subst hj
      simp [World.cell?, Addr.add, hnew]
    | j + 1, hj => simp at hj) (by simp [Value.oneCell']) (by have := hp.room2; simp only [maxLen]; omega) hp.room2 (Nat.zero_le _)
  have hj' : 15 < l.size := by omega
  have hx : ∀ k, k ≠ 15 → (Ex1 (l.setIfInBounds 15 true) k ↔ Ex1 l k) := fun k hk => by
    rw [ex1_set hj']; exact ⟨fun h => h.resolve_left hk, .inr⟩
  have hr := hp.room
  have hda : d + 15 < a.tmps.size := by rw [h.size]; omega
  obtain ⟨o1, o2, o3, o4⟩ := h.os hn
  have hown : v.ownBlock = blkOf v := ownsRow_blk hrow
  have hown' : v'.ownBlock = blkOf v' := ownsRow_blk how
  have hblk : ∀ b, b < w0.heap.size → blkOf v ≠ some b → w1.heap[b]? = w0.heap[b]? := fun b hb hv => (hg.block b (by omega) (by rw [hown]; exact fun e => hv e.symm)).trans (h.all hn5 hn b hb)
  have hgrew : Grew w0 w1 v v' r i := ⟨hg.os.trans o1, hg.tape.trans o2, hg.output.trans o3, Nat.le_trans o4 hg.size, hblk, by simpa [RowOf] using how, fun b hb => by
    rw [← hown'] at hb
    rcases hloc with h1 | h1
    · left; rw [← hown, ← h1]; exact hb
    · right; rw [hb] at h1; cases h1; exact o4⟩
  refine ⟨v', w1, ?_, ⟨by simp [Act.put, h.size], h.defers, fun n hn' => ?_, fun k hk hl' => ?_, fun hf => absurd ((hx 16 (by omega)).1 hf) hn, fun _ => ⟨hgrew.os, hgrew.tape, hgrew.output, hgrew.size⟩, fun _ => hblk, fun g => absurd ((ex1_set hj' 15).2 (.inl rfl)) g, fun g g' => absurd ((ex1_set hj' 15).2 (.inl rfl)) g', fun g => ?_, fun _ g' => absurd ((ex1_set hj' 15).2 (.inl rfl)) g', fun _ _ => ⟨v', by rw [tm_putd hda, if_pos rfl], hgrew⟩⟩⟩
  · simp [execOp, ho, hev, hone, resolve, invoke, builtin, hrun]
  · rw [tm_putd hda, if_neg (by omega)]; exact h.low n hn'
  · rw [tm_putd hda, if_neg (by omega)]; exact h.pure k hk ((hx k (by omega)).1 hl')
  · rw [tm_putd hda, if_neg (by omega)]; exact h.one h14
end
end Go.Proofs.Ytmhpmghhgppdnaa
