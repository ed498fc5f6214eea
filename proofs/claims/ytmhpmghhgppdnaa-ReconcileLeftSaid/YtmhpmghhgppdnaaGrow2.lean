/-
  The two regions in which the table's indexes grow: in whatever order, the row at the key grows by the index.
-/
import Derived.Test.YtmhpmghhgppdnaaGrow
namespace Go.Proofs.Ytmhpmghhgppdnaa
open Go.VM Go.RowKit
section
variable {nt d fi mt kf kty gt gm : Nat} {ad : Addr} {i : Int} {kv v : Value} {r : List Int} {a0 : Act} {w0 : World}
theorem at_list {α β : Type} {f : α → β} {l : List α} {m : List β} (h : l.map f = m) {i : Nat} {x : α} {y : β} (hx : l[i]? = some x) (hy : m[i]? = some y) : f x = y := by
  rw [← h, List.getElem?_map, hx] at hy
  exact Option.some.inj hy
theorem grow_step {opsL : List Oper} (h17 : opsL.length = 17) (hop : opsL.map (·.op) = (List.range 17).map (opOf d fi mt kf kty)) (hds : opsL.map (·.dst) = (List.range 17).map (dstOf d)) (hgd : opsL.map (·.guard) = List.replicate 17 none) (haf : opsL.map aft = afs)
    (hp : Pre nt d fi mt kf kty gt gm ad i kv v r a0 w0) (j : Nat) (op : Oper) (hj : opsL[j]? = some op) (l : Array Bool) (hl : l.size = 17) (hne : ¬ Ex1 l j) (ha : ∀ k ∈ aft op, Ex1 l k) (hcl : ∀ (k : Nat) op', opsL[k]? = some op' → Ex1 l k → ∀ m ∈ aft op', Ex1 l m) (a : Act) (w : World)
    (h : InvG nt d fi mt kf gt gm ad i kv v r a0 w0 l a w) : Region.wanted op (yielded opsL.toArray a.tmps) = true ∧ Outc Try.prog ((execOp a.eval op).run Try.prog w) fun u w1 => InvG nt d fi mt kf gt gm ad i kv v r a0 w0 (l.setIfInBounds j true) (a.put op.dst u) w1 := by
  have hlt : j < 17 := by rw [← h17]; exact (List.getElem?_eq_some_iff.1 hj).1
  have e1 : op.op = opOf d fi mt kf kty j := at_list hop hj (by simp [hlt])
  have e2 : op.dst = dstOf d j := at_list hds hj (by simp [hlt])
  have e3 : op.guard = none := at_list hgd hj (by rw [List.getElem?_replicate, if_pos hlt])
  have e4 : ∀ x, afs[j]? = some x → aft op = x := fun x hx => at_list haf hj hx
  have hcl' : ∀ (k : Nat) (x : List Nat), afs[k]? = some x → Ex1 l k → ∀ m ∈ x, Ex1 l m := fun k x hx hk m hm => by
    have hk' : k < opsL.length := by
      have := (List.getElem?_eq_some_iff.1 hx).1
      rw [h17]; simpa using this
    have h1 := List.getElem?_eq_getElem hk'
    have h2 : aft opsL[k] = x := at_list haf h1 hx
    exact hcl k _ h1 hk m (h2 ▸ hm)
  refine ⟨by simp [Region.wanted, e3], ?_⟩
  have hr := hp.room
  have hn16 : ¬ Ex1 l 16 := fun hx => by
    by_cases hj6 : j = 16
    · exact hne (hj6 ▸ hx)
    · have hj15 : j < 16 := by omega
      have hall : ∀ j, j < 16 → j ∈ ([3, 5, 15, 15, 0, 1, 2, 3, 4, 5, 6, 7, 8, 9, 10, 11, 12, 13, 14, 15] : List Nat) := by decide
      exact hne (hcl' 16 _ rfl hx j (hall j hj15))
  have hn15 : j = 12 ∨ j = 14 ∨ j = 13 ∨ j = 15 → ¬ Ex1 l 15 := fun hjj hx => by
    have h15 := hcl' 15 _ rfl hx
    rcases hjj with rfl | rfl | rfl | rfl
    · exact hne (h15 12 (by decide))
    · exact hne (h15 14 (by decide))
    · exact hne (hcl' 14 _ rfl (h15 14 (by decide)) 13 (by decide))
    · exact hne hx
  have hblk := h.block hn16
  have low : ∀ n, n < d → tm a n = tm a0 n := h.low
  have rd : ∀ (u : Value), j < 14 → u = valG fi gt gm kf ad i kv v j → (execOp a.eval op).run Try.prog w = .ok (.value u) w → Outc Try.prog ((execOp a.eval op).run Try.prog w) fun u w1 => InvG nt d fi mt kf gt gm ad i kv v r a0 w0 (l.setIfInBounds j true) (a.put op.dst u) w1 := fun u hj14 hu hrun => by
    refine outc_value hrun ?_
    have hdj : op.dst = some (d + j) := by rw [e2, dstOf, if_neg (by omega)]
    rw [hdj, hu]
    exact h.read hp hl hj14 hn16
  have e3v : a.eval (.tmp 3) = .pointer (some ⟨gt, 0, none⟩) := eval_tmp ((low 3 (by omega)).trans hp.t3)
  have e4v : a.eval (.tmp 4) = .int .i64 i := eval_tmp ((low 4 (by omega)).trans hp.t4)
  have e5v : a.eval (.tmp 5) = .pointer (some ad) := eval_tmp ((low 5 (by omega)).trans hp.t5)
  have cm : w.cell? ((⟨gt, 0, none⟩ : Addr).add fi) = some (.map (some gm)) := (World.cell?_of_block (by
    rw [add_block]
    exact hblk gt hp.blocks.1 fun e => (hp.apart gt e).1 rfl)).trans hp.cm
  have ck : w.cell? (ad.add kf) = some kv := (World.cell?_of_block (by
    rw [add_block]
    exact hblk ad.block hp.blocks.2.2 fun e => (hp.apart ad.block e).2.2 rfl)).trans hp.ck
  have hgm : w.heap[gm]? = w0.heap[gm]? := hblk gm hp.blocks.2.1 fun e => (hp.apart gm e).2.1 rfl
  obtain ⟨⟨ddm, hdm⟩, hagm⟩ := hp.mty
  obtain ⟨⟨ddk, hdk⟩, hagk⟩ := hp.kty
  have ev : ∀ k, k < 14 → (∃ x, afs[j]? = some x ∧ k ∈ x) → a.eval (.tmp (d + k)) = valG fi gt gm kf ad i kv v k := fun k hk ⟨x, hx, hm⟩ => h.ev hk (ha k (by rw [e4 x hx]; exact hm))
  obtain rfl | rfl | rfl | rfl | rfl | rfl | rfl | rfl | rfl | rfl | rfl | rfl | rfl | rfl | rfl | rfl | rfl : j = 0 ∨ j = 1 ∨ j = 2 ∨ j = 3 ∨ j = 4 ∨ j = 5 ∨ j = 6 ∨ j = 7 ∨ j = 8 ∨ j = 9 ∨ j = 10 ∨ j = 11 ∨ j = 12 ∨ j = 13 ∨ j = 14 ∨ j = 15 ∨ j = 16 := by omega
  · exact rd _ (by omega) rfl ((rn_mv e1).trans (by rw [e3v]; rfl))
  · exact rd _ (by omega) rfl (rn_nil e1 (ev 0 (by omega) ⟨_, rfl, by decide⟩))
  · exact rd _ (by omega) rfl (rn_fa e1 (ev 1 (by omega) ⟨_, rfl, by decide⟩) (hp.hfi w))
  · exact rd _ (by omega) rfl (rn_ld hdm hagm e1 (ev 2 (by omega) ⟨_, rfl, by decide⟩) cm)
  · exact rd _ (by omega) rfl (rn_fa e1 e5v (hp.hkf w))
  · exact rd _ (by omega) rfl (rn_ld hdk hagk e1 (ev 4 (by omega) ⟨_, rfl, by decide⟩) ck)
  · exact rd _ (by omega) rfl ((rn_mv e1).trans (by rw [e3v]; rfl))
  · exact rd _ (by omega) rfl (rn_nil e1 (ev 6 (by omega) ⟨_, rfl, by decide⟩))
  · exact rd _ (by omega) rfl (rn_fa e1 (ev 7 (by omega) ⟨_, rfl, by decide⟩) (hp.hfi w))
  · exact rd _ (by omega) rfl (rn_ld hdm hagm e1 (ev 8 (by omega) ⟨_, rfl, by decide⟩) cm)
  · exact rd _ (by omega) rfl (rn_fa e1 e5v (hp.hkf w))
  · exact rd _ (by omega) rfl (rn_ld hdk hagk e1 (ev 10 (by omega) ⟨_, rfl, by decide⟩) ck)
  · have h9 := ev 9 (by omega) ⟨_, rfl, by decide⟩
    have h11 := ev 11 (by omega) ⟨_, rfl, by decide⟩
    simp only [valG] at h9 h11
    refine rd v (by omega) rfl ?_
    simp only [execOp, e1, opOf, h9, h11, Sem.run_bind, hp.look w hgm, Result.andThen_ok, Sem.run_pure]
  · exact rd _ (by omega) rfl ((rn_mv e1).trans (by rw [e4v]; rfl))
  · obtain ⟨w1, hrun, hI⟩ := h.made hp hl (ha 13 (by rw [e4 _ rfl]; decide)) hne (hn15 (.inr (.inl rfl))) hn16 e1
    refine outc_value hrun ?_
    rw [e2]; exact hI
  · obtain ⟨v', w1, hrun, hI⟩ := h.apps hp hl (ha 12 (by rw [e4 _ rfl]; decide)) (ha 14 (by rw [e4 _ rfl]; decide)) hne hn16 e1
    refine outc_value hrun ?_
    rw [e2]; exact hI
  · have h3 := ev 3 (by omega) ⟨_, rfl, by decide⟩
    have h5 := ev 5 (by omega) ⟨_, rfl, by decide⟩
    simp only [valG] at h3 h5
    obtain ⟨v', hv', hg⟩ := h.app (ha 15 (by rw [e4 _ rfl]; decide)) hn16
    have h15 : a.eval (.tmp (d + 15)) = v' := eval_tmp hv'
    obtain ⟨w2, hrun⟩ := hp.upd w v' hgm
    refine outc_skip (w1 := w2) (by simp only [execOp, e1, opOf, h3, h5, h15, Sem.run_bind, hrun, Result.andThen_ok, Sem.run_pure]) ?_
    have hd0 : op.dst = none := by rw [e2]; rfl
    rw [hd0]
    have h16 : Ex1 (l.setIfInBounds 16 true) 16 := (ex1_set (by omega) 16).2 (.inl rfl)
    have hx : ∀ k, k ≠ 16 → (Ex1 (l.setIfInBounds 16 true) k ↔ Ex1 l k) := fun k hk => by
      rw [ex1_set (by omega)]; exact ⟨fun h => h.resolve_left hk, .inr⟩
    exact ⟨h.size, h.defers, h.low, fun k hk hl' => h.pure k hk ((hx k (by omega)).1 hl'), fun _ => ⟨w, v', hg, hrun⟩, fun g => absurd h16 g, fun g => absurd h16 g, fun _ g => absurd h16 g, fun _ _ g => absurd h16 g, fun g => h.one ((hx 14 (by omega)).1 g), fun _ _ g => absurd h16 g, fun _ g => absurd h16 g⟩
theorem acy17 {ops : Array Oper} (h17 : ops.toList.length = 17) (haf : ops.toList.map aft = afs) : ((List.range ops.size).all fun i => match ops[i]? with | some o => (aft o).all fun j => decide (j < i) | none => false) = true := by
  have hsz : ops.size = 17 := by simpa using h17
  rw [hsz]
  refine List.all_eq_true.2 fun i hi => ?_
  have hi := List.mem_range.1 hi
  have h1 : ops[i]? = some ops[i] := Array.getElem?_eq_getElem (by omega)
  rw [h1]
  have h2 : ops.toList[i]? = some ops[i] := by simp
  have h3 : ∀ x, afs[i]? = some x → aft ops[i] = x := fun x hx => at_list haf h2 hx
  simp only
  have hall : ∀ (i : Nat) (x : List Nat), afs[i]? = some x → (x.all fun j => decide (j < i)) = true := by
    intro i x hx
    have hi' : i < 17 := (List.getElem?_eq_some_iff.1 hx).1
    have h := (List.getElem?_eq_some_iff.1 hx).2
    have hd : ∀ i, (hi : i < 17) → ((afs[i]'hi).all fun j => decide (j < i)) = true := by decide
    rw [← h]; exact hd i hi'
  have hi2 : i < afs.length := hi
  rw [h3 _ (List.getElem?_eq_getElem hi2)]
  exact hall i _ (List.getElem?_eq_getElem hi2)
theorem grow_region {id : Nat} {ops : Array Oper} (h17 : ops.toList.length = 17) (hop : ops.toList.map (·.op) = (List.range 17).map (opOf d fi mt kf kty)) (hds : ops.toList.map (·.dst) = (List.range 17).map (dstOf d)) (hgd : ops.toList.map (·.guard) = List.replicate 17 none) (haf : ops.toList.map aft = afs) {w : World}
    (hp : Pre nt d fi mt kf kty gt gm ad i kv v r a0 { w with drawn := w.drawn + 1 }) {Q : Exit → Act → World → Prop}
    (hQ : ∀ a' w1 w2 v', a'.tmps.size = nt → a'.defers = [] → (∀ n, n < d → tm a' n = tm a0 n) → Grew { w with drawn := w.drawn + 1 } w1 v v' r i → (Instr.mapUpdate mt (.map (some gm)) kv v').run Try.prog w1 = .ok () w2 → Q .normal a' w2) : (Code.region id ops true).wp Try.prog Q a0 w := by
  refine regI (P := Try.prog) (by kernel_rfl) (fun l a w' => InvG nt d fi mt kf gt gm ad i kv v r a0 { w with drawn := w.drawn + 1 } l a w') (fun j op hj l hl hne ha hcl a w' h => grow_step h17 hop hds hgd haf hp j op hj l (hl.trans h17) hne ha hcl a w' h) (acy17 h17 haf) ?_ (fun l a' w2 hall h => ?_)
  · have hn : ∀ k, ¬ Ex1 (Array.replicate ops.size false) k := fun k hk => by
      unfold Ex1 at hk
      simp only [Array.getD_eq_getD_getElem?, Array.getElem?_replicate] at hk
      split at hk <;> simp at hk
    exact ⟨hp.size, hp.defers, fun _ _ => rfl, fun k _ hk => absurd hk (hn k), fun hk => absurd hk (hn _), fun _ => ⟨rfl, rfl, rfl, Nat.le_refl _⟩, fun _ _ _ _ => rfl, fun _ _ _ _ => rfl, fun _ _ _ => rfl, fun hk => absurd hk (hn _), fun hk => absurd hk (hn _), fun hk => absurd hk (hn _)⟩
  · have hsz : ops.size = 17 := by simpa using h17
    obtain ⟨w1, v', hg, hrun⟩ := h.fin (hall 16 (by omega))
    exact hQ a' w1 w2 v' h.size h.defers h.low hg hrun
end
end Go.Proofs.Ytmhpmghhgppdnaa
