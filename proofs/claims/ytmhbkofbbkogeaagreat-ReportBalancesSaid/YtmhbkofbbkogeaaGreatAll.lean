/-
  The row of all roots as the law builds it: a list that grows in a field of a variable. The regions, walked by hand in whatever order.
-/
import Derived.Test.YtmhbkofbbkogeaaGreatCode
import Derived.Test.YtmhbkofbbkogeaaGreatVmU
import Derived.Maps.AppendAt
namespace Go.Proofs.YtmhbkofbbkogeaaGreat
open Go.VM Go.RowKit
def regId (n : Nat) : Code → Option (List Oper)
  | .region i ops _ => if i = n then some ops.toList else none
  | .seq a b => (regId n a).or (regId n b)
  | .cond _ a b => (regId n a).or (regId n b)
  | .block _ a => regId n a
  | .loop a => regId n a
  | _ => none
noncomputable def ops8 : List Oper := ((Tryz.f3.body).bind (regId 8)).getD []
noncomputable def ops3 : List Oper := ((Tryz.f3.body).bind (regId 3)).getD []
abbrev afs8 : List (List Nat) := [[], [0], [], [2], [], [3, 4], [5], [6], [7], [1, 8], [0, 1, 2, 3, 4, 5, 6, 7, 8, 9], [10, 9, 9, 0, 1, 2, 3, 4, 5, 6, 7, 8, 9]]
abbrev opL8 : List Op := [.fieldAddr 36 (.tmp 7) 2, .load 34 (.tmp 42), .fieldAddr 33 (.tmp 3) 2, .load 24 (.tmp 44), .move (.tmp 8), .indexAddr 24 (.tmp 45) (.tmp 46), .fieldAddr 41 (.tmp 47) 0, .load 3 (.tmp 48), .buildSlice 34 1 #[(0, .tmp 49)], .call { callee := .builtin .append, args := #[.tmp 43, .tmp 50], argTypes := #[34, 34] }, .fieldAddr 36 (.tmp 7) 2, .store 34 (.tmp 52) (.tmp 51)]
theorem aft8 : ops8.map aft = afs8 := by kernel_rfl
theorem gd8 : ops8.map (·.guard) = List.replicate 12 none := by kernel_rfl
def ds8 (i : Nat) : Option Nat := if i < 11 then some (42 + i) else none
theorem dst8 : ops8.map (·.dst) = (List.range 12).map ds8 := by kernel_rfl
theorem op8 : ops8.map (·.op) = opL8 := by kernel_rfl
theorem len8 : ops8.length = 12 := by kernel_rfl
theorem op3 : ops3.map (·.op) = [.build 36 #[(0, .const (.string ⟨#[97, 108, 108]⟩)), (1, .const (.int .i64 1))], .alloc 36, .store 36 (.tmp 7) (.tmp 27)] := by kernel_rfl
theorem ds3 : ops3.map (·.dst) = [some 27, some 7, none] := by kernel_rfl
theorem gd3 : ops3.map (·.guard) = List.replicate 3 none := by kernel_rfl
theorem len3 : ops3.length = 3 := by kernel_rfl
/-- A slice of numbers of nobody else's. -/
abbrev RowOf (w : World) (v : Value) (r : List Int) : Prop := w.ownsRow 0 3 1 v r.length (r.map fun k => Value.int .i64 k)
theorem ownsRow_blk' {w : World} {v : Value} {r : List Int} (h : RowOf w v r) : v.ownBlock = blkOf v := by
  rcases h.2 with ⟨rfl, _⟩ | ⟨g, cap, cur, rfl, _⟩ <;> rfl
theorem RowOf.loc {w w' : World} {v : Value} {r : List Int} (h : RowOf w v r) (hb : ∀ b, blkOf v = some b → w'.heap[b]? = w.heap[b]?) : RowOf w' v r := by
  refine ⟨h.1, ?_⟩
  rcases h.2 with h1 | ⟨g, cap, cur, rfl, h1, hh, h2⟩
  · exact .inl h1
  · exact .inr ⟨g, cap, cur, rfl, h1, (hb g rfl).trans hh, h2⟩
theorem RowOf.lt {w : World} {v : Value} {r : List Int} (h : RowOf w v r) {b : Nat} (hb : blkOf v = some b) : b < w.heap.size := by
  rcases h.2 with ⟨rfl, _⟩ | ⟨g, cap, cur, rfl, _, hh, _⟩
  · cases hb
  · cases hb; exact (Array.getElem?_eq_some_iff.1 hh).1
section
variable {P : Program} {w : World} {ρ : Operand → Value} {o : Oper}
theorem load1_run {t : TypeId} {d : TypeDesc} (hd : P.underlying t = some d) (ha : isAggB P t = false) {ad : Addr} {u : Value} (h : w.cell? ad = some u) : (Instr.loadAt t (.pointer (some ad))).run P w = .ok u w := by
  simp only [Instr.loadAt, Instr.sureAddr, Sem.run_bind, Sem.run_pure, Result.andThen_ok, loadVar, isAgg_run hd, ha, Bool.false_eq_true, if_false]
  rw [run_load]
  simp [h]
theorem rn_mv {x : Operand} (ho : o.op = .move x) : (execOp ρ o).run P w = .ok (.value (ρ x)) w := by simp only [execOp, ho, Sem.run_pure]
theorem rn_fa {t : TypeId} {f : Nat} {x : Operand} {ad : Addr} {u : Value} (ho : o.op = .fieldAddr t x f) (hx : ρ x = .pointer (some ad)) (hr : (Instr.fieldAt t (.pointer (some ad)) f).run P w = .ok u w) : (execOp ρ o).run P w = .ok (.value u) w := by
  simp only [execOp, ho, hx, Sem.run_bind, hr, Result.andThen_ok, Sem.run_pure]
theorem rn_ld {t : TypeId} {dd : TypeDesc} (hd : P.underlying t = some dd) (ha : isAggB P t = false) {x : Operand} {ad : Addr} {u : Value} (ho : o.op = .load t x) (hx : ρ x = .pointer (some ad)) (hc : w.cell? ad = some u) : (execOp ρ o).run P w = .ok (.value u) w := by
  simp only [execOp, ho, hx, Sem.run_bind, load1_run hd ha hc, Result.andThen_ok, Sem.run_pure]
theorem rn_ix {t e : TypeId} (hu : P.underlying t = some (.slice e)) {d : TypeDesc} (he : P.underlying e = some d) {x y : Operand} {ad : Addr} {len c k : Nat} (ho : o.op = .indexAddr t x y) (hx : ρ x = .slice (some ad) len c) (hy : ρ y = .int .i64 k) (hk : k < len) :
    (execOp ρ o).run P w = .ok (.value (.pointer (some (ad.add (k * P.cellsOf e))))) w := by
  have h : (Instr.indexAt t (.slice (some ad) len c) (.int .i64 k)).run P w = .ok (.pointer (some (ad.add (k * P.cellsOf e)))) w := by
    simp [Instr.indexAt, asIntOf, run_underlying hu, hk, sizeOf_run he]
  simp only [execOp, ho, hx, hy, Sem.run_bind, h, Result.andThen_ok, Sem.run_pure]
end
theorem fa36 (w : World) (ad : Addr) : (Instr.fieldAt 36 (.pointer (some ad)) 2).run Tryz.prog w = .ok (.pointer (some (ad.add 2))) w := fieldAt_run (P := Tryz.prog) Tryz.underlying36 (i := 2) rfl (by show 0 < Tryz.prog.cellsOf 34; rw [show Tryz.prog.cellsOf 34 = 1 from by kernel_rfl]; decide) ad
theorem fa33 (w : World) (ad : Addr) : (Instr.fieldAt 33 (.pointer (some ad)) 2).run Tryz.prog w = .ok (.pointer (some (ad.add 2))) w := fieldAt_run (P := Tryz.prog) Tryz.underlying33 (i := 2) rfl (by show 0 < Tryz.prog.cellsOf 24; rw [show Tryz.prog.cellsOf 24 = 1 from by kernel_rfl]; decide) ad
theorem fa41 (w : World) (ad : Addr) : (Instr.fieldAt 41 (.pointer (some ad)) 0).run Tryz.prog w = .ok (.pointer (some (ad.add 0))) w := fieldAt_run (P := Tryz.prog) Tryz.underlying41 (i := 0) rfl (by show 0 < Tryz.prog.cellsOf 3; rw [show Tryz.prog.cellsOf 3 = 1 from by kernel_rfl]; decide) ad
theorem info3 : (Tryz.prog.info? 3).map (fun i => (i.zero, i.size, i.bytes)) = some (some (.int .i64 0), 1, 8) := by kernel_rfl
/-- What the frame holds, and what is known of the world, ahead of the region of growth. -/
structure Pre8 (g : Nat) (ad cad : Addr) (len cap k : Nat) (id : Int) (s v : Value) (L : List Int) (a0 : Act) (w : World) : Prop where
  size : 53 ≤ a0.tmps.size
  t7 : tm a0 7 = some (.pointer (some ⟨g, 0, none⟩))
  t3 : tm a0 3 = some (.pointer (some ad))
  t8 : tm a0 8 = some (.int .i64 k)
  cg : w.heap[g]? = some (.cells #[s, .int .i64 1, v] 36 (0, 0))
  cc : w.cell? (ad.add 2) = some (.slice (some cad) len cap)
  ci : w.cell? ((cad.add (k * 4)).add 0) = some (.int .i64 id)
  hk : k < len
  row : RowOf w v L
  vg : blkOf v ≠ some g
  had : ad.block < w.heap.size ∧ ad.block ≠ g ∧ blkOf v ≠ some ad.block
  hcad : cad.block < w.heap.size ∧ cad.block ≠ g ∧ blkOf v ≠ some cad.block
  room : (L.length + 1) * 8 ≤ 140737488355328
def val8 (g : Nat) (ad cad : Addr) (len cap k : Nat) (id : Int) (v : Value) (N : Nat) (v' : Value) : Nat → Value
  | 0 | 10 => .pointer (some ⟨g, 2, none⟩)
  | 1 => v
  | 2 => .pointer (some (ad.add 2))
  | 3 => .slice (some cad) len cap
  | 4 => .int .i64 k
  | 5 => .pointer (some (cad.add (k * 4)))
  | 6 => .pointer (some ((cad.add (k * 4)).add 0))
  | 7 => .int .i64 id
  | 8 => .slice (some ⟨N, 0, none⟩) 1 1
  | 9 => v'
  | _ => undef
/-- Behind the region: the list is longer by one. -/
structure Post8 (g : Nat) (id : Int) (s v v' : Value) (L : List Int) (a0 a' : Act) (w w' : World) : Prop where
  size : a'.tmps.size = a0.tmps.size
  defers : a'.defers = a0.defers
  low : ∀ n, n < 42 → tm a' n = tm a0 n
  cg : w'.heap[g]? = some (.cells #[s, .int .i64 1, v'] 36 (0, 0))
  row : RowOf w' v' (L ++ [id])
  vg : blkOf v' ≠ some g
  os : w'.os = w.os
  tape : w'.tape = w.tape
  output : w'.output = w.output
  grow : w.heap.size ≤ w'.heap.size
  block : ∀ b, b < w.heap.size → b ≠ g → blkOf v ≠ some b → w'.heap[b]? = w.heap[b]?
  loc : ∀ b, blkOf v' = some b → blkOf v = some b ∨ w.heap.size ≤ b
set_option maxHeartbeats 1000000 in
theorem reg8 {g : Nat} {ad cad : Addr} {len cap k : Nat} {id : Int} {s v : Value} {L : List Int} {a0 : Act} {w : World} (hp : Pre8 g ad cad len cap k id s v L a0 w) {ops : Array Oper} (hops : ops.toList = ops8) {Q : Exit → Act → World → Prop}
    (hQ : ∀ v' a' w', Post8 g id s v v' L a0 a' w w' → Q .normal a' w') : (Code.region 8 ops true).wp Tryz.prog Q a0 w := by
  have hsz : ops.size = 12 := by rw [← Array.length_toList, hops, len8]
  have hinj : ∀ i j n, ds8 i = some n → ds8 j = some n → i = j := fun i j n h h' => by
    unfold ds8 at h h'
    split at h <;> split at h' <;> simp at h h'
    omega
  have hsize := hp.size
  have hlt : ∀ i n, ds8 i = some n → n < a0.tmps.size := fun i n h => by
    unfold ds8 at h
    split at h <;> simp at h
    omega
  have hget : ∀ (i : Nat) op, ops8[i]? = some op → i < 12 ∧ op.op = opL8.getD i default ∧ op.dst = ds8 i ∧ op.guard = none ∧ aft op = afs8.getD i [] := fun i op hi => by
    have hi12 : i < 12 := by rw [← len8]; exact (List.getElem?_eq_some_iff.1 hi).1
    have e1 := congrArg (fun l => l[i]?) op8
    have e2 := congrArg (fun l => l[i]?) dst8
    have e3 := congrArg (fun l => l[i]?) gd8
    have e4 := congrArg (fun l => l[i]?) aft8
    simp only [List.getElem?_map, hi, Option.map_some] at e1 e2 e3 e4
    refine ⟨hi12, ?_, ?_, ?_, ?_⟩
    · rw [List.getD_eq_getElem?_getD, ← e1]; rfl
    · rw [List.getElem?_range hi12] at e2; simpa using e2
    · rw [List.getElem?_replicate, if_pos hi12] at e3; exact Option.some.inj e3
    · rw [List.getD_eq_getElem?_getD, ← e4]; rfl
  -- the worlds
  have hg : g < w.heap.size := (Array.getElem?_eq_some_iff.1 hp.cg).1
  generalize hw0 : ({ w with drawn := w.drawn + 1 } : World) = w0
  have e0 : w0.heap = w.heap := by rw [← hw0]
  have e0' : w0.os = w.os ∧ w0.tape = w.tape ∧ w0.output = w.output := by rw [← hw0]; exact ⟨rfl, rfl, rfl⟩
  generalize hw1 : w0.alloc (.cells #[.int .i64 id] 3) = w1
  have h1old : ∀ b, b < w.heap.size → w1.heap[b]? = w.heap[b]? := fun b hb => by rw [← hw1, heap_alloc_old w0 _ (by rw [e0]; exact hb), e0]
  have h1new : w1.heap[w.heap.size]? = some (.cells #[.int .i64 id] 3 (0, 0)) := by rw [← hw1, ← e0]; exact heap_alloc_new w0 _
  have h1sz : w1.heap.size = w.heap.size + 1 := by rw [← hw1]; simp [e0]
  have h1o : w1.os = w.os ∧ w1.tape = w.tape ∧ w1.output = w.output := by rw [← hw1]; exact e0'
  have hrow1 : RowOf w1 v L := hp.row.loc fun b hb => h1old b (hp.row.lt hb)
  obtain ⟨i0, hi0, hz, hs1, hb1⟩ : ∃ i0, Tryz.prog.info? 3 = some i0 ∧ i0.zero = some (.int .i64 0) ∧ i0.size = 1 ∧ i0.bytes = 8 := by
    have := info3
    cases hq : Tryz.prog.info? 3 with
    | none => rw [hq] at this; cases this
    | some i0 =>
      rw [hq] at this
      simp only [Option.map_some, Option.some.injEq, Prod.mk.injEq] at this
      exact ⟨i0, rfl, this.1, this.2.1, this.2.2⟩
  obtain ⟨o9, ho9⟩ : ∃ o9, ops8[9]? = some o9 := ⟨_, List.getElem?_eq_getElem (by rw [len8]; decide)⟩
  obtain ⟨v', w2, hrun9, how, hgb, _, hloc⟩ := run_append_own_at (P := Tryz.prog) w1 0 34 o9.type 3 i0 (.int .i64 0) 1 8 Tryz.underlying34 hi0 hz hs1 hb1 rfl (by decide) v L.length _ hrow1 ⟨w.heap.size, 0, none⟩ 1 1 [.int .i64 id] rfl (fun j u hj => by
    match j, hj with
    | 0, hj =>
      simp only [List.getElem?_cons_zero, Option.some.injEq] at hj
      subst hj
      simp [World.cell?, Addr.add, h1new]
    | j + 1, hj => simp at hj) (by simp [Value.oneCell']) (by have := hp.room; simp only [maxLen]; omega) hp.room (Nat.zero_le _)
  have how' : RowOf w2 v' (L ++ [id]) := by simpa [RowOf] using how
  have hown := ownsRow_blk' hp.row
  have hown' := ownsRow_blk' how'
  have h2old : ∀ b, b < w.heap.size → blkOf v ≠ some b → w2.heap[b]? = w.heap[b]? := fun b hb hv => (hgb.block b (by omega) (by rw [hown]; exact fun e => hv e.symm)).trans (h1old b hb)
  have hloc' : ∀ b, blkOf v' = some b → blkOf v = some b ∨ w.heap.size ≤ b := fun b hb => by
    rw [← hown'] at hb
    rcases hloc with h1 | h1
    · left; rw [← hown, ← h1]; exact hb
    · right; rw [hb] at h1; cases h1; omega
  have hcg2 : w2.heap[g]? = some (.cells #[s, .int .i64 1, v] 36 (0, 0)) := (h2old g hg hp.vg).trans hp.cg
  have hvg' : blkOf v' ≠ some g := fun e => by
    rcases hloc' g e with h | h
    · exact hp.vg h
    · omega
  have hone : v'.oneCell' = true := by rcases how'.2 with ⟨rfl, _⟩ | ⟨_, _, _, rfl, _⟩ <;> rfl
  have hcells : v'.cells = #[v'] := by rcases how'.2 with ⟨rfl, _⟩ | ⟨_, _, _, rfl, _⟩ <;> rfl
  have c34 : Tryz.prog.cellsOf 34 = 1 := by kernel_rfl
  have hst : (Instr.storeAt 34 (.pointer (some ⟨g, 2, none⟩)) v').run Tryz.prog w2 = .ok () (w2.setRow g #[s, .int .i64 1, v']) := by
    have := storeAt_run (P := Tryz.prog) (t := 34) (u := v') (ad := ⟨g, 2, none⟩) (g := g) (j := 2) rfl hcg2 (by rw [hcells, c34]; rfl) (by rw [c34]; decide) (by rw [hcells]; exact Nat.le_refl 3) (by rw [hcells]; simpa using hone)
    rw [hcells] at this
    simpa using this
  generalize hw3 : w2.setRow g #[s, .int .i64 1, v'] = w3 at hst
  have same : ∀ w', w' = w0 ∨ w' = w1 ∨ w' = w2 → ∀ b, b < w.heap.size → blkOf v ≠ some b → w'.heap[b]? = w.heap[b]? := fun w' hw' b hb hv => by
    rcases hw' with rfl | rfl | rfl
    · rw [e0]
    · exact h1old b hb
    · exact h2old b hb hv
  have hfin : ∀ (l : Array Bool) (a' : Act) (w' : World), TmOk ds8 (val8 g ad cad len cap k id v w.heap.size v') a0 l a' → w' = w3 → Q .normal a' w' := fun l a' w' hT hw' => by
    subst hw'
    have h3 : ∀ b, b ≠ g → w'.heap[b]? = w2.heap[b]? := fun b hb => by rw [← hw3]; exact setRow_other w2 g b _ hb
    have h3g : w'.heap[g]? = some (.cells #[s, .int .i64 1, v'] 36 (0, 0)) := by rw [← hw3]; exact setRow_heap w2 g _ _ 36 (0, 0) hcg2
    refine hQ v' a' w' ⟨hT.1, hT.2.1, fun n hn => hT.2.2.2 n fun i _ h => ?_, h3g, how'.loc fun b hb => h3 b fun e => hvg' (e ▸ hb), hvg', ?_, ?_, ?_, ?_, fun b hb hbg hbv => (h3 b hbg).trans (h2old b hb hbv), hloc'⟩
    · unfold ds8 at h
      split at h <;> simp at h
      omega
    · rw [← hw3]; exact hgb.os.trans h1o.1
    · rw [← hw3]; exact hgb.tape.trans h1o.2.1
    · rw [← hw3]; exact hgb.output.trans h1o.2.2
    · rw [← hw3, setRow_size]; have := hgb.size; omega
  refine regV (by kernel_rfl) (ds := ds8) (val := val8 g ad cad len cap k id v w.heap.size v') (fun l w' => (¬ Ex1 l 8 → w' = w0) ∧ (Ex1 l 8 → ¬ Ex1 l 9 → w' = w1) ∧ (Ex1 l 9 → ¬ Ex1 l 11 → w' = w2) ∧ (Ex1 l 11 → w' = w3)) hinj hlt (fun i op hi => ?_) (fun i op hi l hl hne haft hcl a w' hT hW => ?_) ?_ ?_ (fun l a' w' hall hT hW => ?_)
  · rw [hops] at hi
    exact ⟨(hget i op hi).2.2.1, (hget i op hi).2.2.2.1⟩
  · rw [hops] at hi hcl hl
    obtain ⟨hi12, ho, hd, hgd, ha⟩ := hget i op hi
    rw [ha] at haft
    have hil : i < l.size := by rw [hl, len8]; exact hi12
    have up : ∀ j m, j < 12 → Ex1 l j → m ∈ afs8.getD j [] → Ex1 l m := fun j m hj hx hm => by
      obtain ⟨oj, hoj⟩ : ∃ oj, ops8[j]? = some oj := ⟨_, List.getElem?_eq_getElem (by rw [len8]; exact hj)⟩
      exact hcl j oj hoj hx m (by rw [(hget j oj hoj).2.2.2.2]; exact hm)
    have hn11 : ¬ Ex1 l 11 := fun h11 => by
      by_cases he : i = 11
      · subst he; exact hne h11
      · have hi11 : i < 11 := by omega
        exact hne (up 11 i (by decide) h11 (by revert hi11; exact (by decide : ∀ i < 11, i ∈ afs8.getD 11 []) i))
    have h98 : Ex1 l 9 → Ex1 l 8 := fun h => up 9 8 (by decide) h (by decide)
    have hww : w' = w0 ∨ w' = w1 ∨ w' = w2 := by
      by_cases h8 : Ex1 l 8
      · by_cases h9 : Ex1 l 9
        · exact .inr (.inr (hW.2.2.1 h9 hn11))
        · exact .inr (.inl (hW.2.1 h8 h9))
      · exact .inl (hW.1 h8)
    have hsame := same w' hww
    have ev : ∀ j, j < 11 → Ex1 l j → a.eval (.tmp (42 + j)) = val8 g ad cad len cap k id v w.heap.size v' j := fun j hj hx => eval_tmp (hT.2.2.1 j _ hx (by simp [ds8, hj]))
    have lowT : ∀ n, n < 42 → tm a n = tm a0 n := fun n hn => hT.2.2.2 n fun i _ h => by unfold ds8 at h; split at h <;> simp at h; omega
    have e7 : a.eval (.tmp 7) = .pointer (some ⟨g, 0, none⟩) := eval_tmp ((lowT 7 (by decide)).trans hp.t7)
    have e3 : a.eval (.tmp 3) = .pointer (some ad) := eval_tmp ((lowT 3 (by decide)).trans hp.t3)
    have e8 : a.eval (.tmp 8) = .int .i64 k := eval_tmp ((lowT 8 (by decide)).trans hp.t8)
    have kc : ∀ p : Addr, p.block < w.heap.size → blkOf v ≠ some p.block → w'.cell? p = w.cell? p := fun p h1 h2 => World.cell?_of_block (hsame _ h1 h2)
    have hx : ∀ j, j ≠ i → (Ex1 (l.setIfInBounds i true) j ↔ Ex1 l j) := fun j hj => by rw [ex1_set hil]; exact ⟨fun h => h.resolve_left hj, .inr⟩
    have pure1 : ∀ u, u = val8 g ad cad len cap k id v w.heap.size v' i → i ≠ 8 → i ≠ 9 → i ≠ 11 → (execOp a.eval op).run Tryz.prog w' = .ok (.value u) w' → Outc Tryz.prog ((execOp a.eval op).run Tryz.prog w') fun u w1' => (ds8 i = none ∨ u = val8 g ad cad len cap k id v w.heap.size v' i) ∧ ((¬ Ex1 (l.setIfInBounds i true) 8 → w1' = w0) ∧ (Ex1 (l.setIfInBounds i true) 8 → ¬ Ex1 (l.setIfInBounds i true) 9 → w1' = w1) ∧ (Ex1 (l.setIfInBounds i true) 9 → ¬ Ex1 (l.setIfInBounds i true) 11 → w1' = w2) ∧ (Ex1 (l.setIfInBounds i true) 11 → w1' = w3)) := fun u hu i8 i9 i11 hr => by
      rw [hr]
      rw [hx 8 (Ne.symm i8), hx 9 (Ne.symm i9), hx 11 (Ne.symm i11)]
      exact ⟨.inr hu, hW⟩
    have c41 : Tryz.prog.cellsOf 41 = 4 := by kernel_rfl
    have cgw : w'.heap[g]? = some (.cells #[s, .int .i64 1, v] 36 (0, 0)) := (hsame g hg hp.vg).trans hp.cg
    match i, hi12 with
    | 0, _ => exact pure1 _ rfl (by decide) (by decide) (by decide) (rn_fa ho e7 (by rw [fa36]; rfl))
    | 1, _ => exact pure1 _ rfl (by decide) (by decide) (by decide) (rn_ld Tryz.underlying34 (by kernel_rfl) ho (ev 0 (by decide) (haft 0 (by decide))) (show w'.cell? ⟨g, 2, none⟩ = some v from by simp [World.cell?, cgw]))
    | 2, _ => exact pure1 _ rfl (by decide) (by decide) (by decide) (rn_fa ho e3 (fa33 w' ad))
    | 3, _ => exact pure1 _ rfl (by decide) (by decide) (by decide) (rn_ld Tryz.underlying24 (by kernel_rfl) ho (ev 2 (by decide) (haft 2 (by decide))) ((kc _ (by rw [add_block]; exact hp.had.1) (by rw [add_block]; exact hp.had.2.2)).trans hp.cc))
    | 4, _ => exact pure1 _ e8 (by decide) (by decide) (by decide) (rn_mv ho)
    | 5, _ => exact pure1 _ (by rw [c41]; rfl) (by decide) (by decide) (by decide) (rn_ix Tryz.underlying24 Tryz.underlying41 ho (ev 3 (by decide) (haft 3 (by decide))) (ev 4 (by decide) (haft 4 (by decide))) hp.hk)
    | 6, _ => exact pure1 _ rfl (by decide) (by decide) (by decide) (rn_fa ho (ev 5 (by decide) (haft 5 (by decide))) (fa41 w' _))
    | 7, _ => exact pure1 _ rfl (by decide) (by decide) (by decide) (rn_ld Tryz.underlying3 (by kernel_rfl) ho (ev 6 (by decide) (haft 6 (by decide))) ((kc _ (by rw [add_block, add_block]; exact hp.hcad.1) (by rw [add_block, add_block]; exact hp.hcad.2.2)).trans hp.ci))
    | 8, _ =>
      obtain rfl := hW.1 hne
      have hev := ev 7 (by decide) (haft 7 (by decide))
      simp only [val8] at hev
      obtain ⟨cells, hc1, hc2, _, hrun⟩ := bsl_run (P := Tryz.prog) (S := fun _ => True) (w := w') (t := 34) (e := 3) (k := 1) (n := 1) Tryz.underlying34 (by kernel_rfl) (by decide) (by kernel_rfl) #[(0, Operand.tmp 49)] rfl a.eval [.i .i64 id] (by
        simp only [List.map_cons, List.map_nil, hev]
        exact Reps.cons (.i _ _) Reps.nil) (by simp [V.cells])
      have hcells1 : cells = [.int .i64 id] := by
        match cells, hc1, hc2 with
        | [c], hc1, _ =>
          simp only [flatc, List.flatMap_cons, V.cells, List.flatMap_nil, List.append_nil] at hc1
          have h1 := hc1.head
          cases h1
          rfl
      subst hcells1
      have hr8 : (execOp a.eval op).run Tryz.prog w' = .ok (.value (.slice (some ⟨w.heap.size, 0, none⟩) 1 1)) w1 := by
        have := hrun w'
        rw [e0] at this
        have ho' : op.op = .buildSlice 34 1 #[(0, .tmp 49)] := ho
        simp only [execOp, ho', Sem.run_bind]
        rw [this, ← hw1]; rfl
      rw [hr8]
      refine ⟨.inr rfl, fun h => absurd ((ex1_set hil 8).2 (.inl rfl)) h, fun _ _ => rfl, fun h => ?_, fun h => ?_⟩
      · exact absurd (h98 ((hx 9 (by decide)).1 h)) hne
      · exact absurd ((hx 11 (by decide)).1 h) hn11
    | 9, _ =>
      obtain rfl : w' = w1 := hW.2.1 (haft 8 (by decide)) hne
      obtain rfl : o9 = op := Option.some.inj (ho9.symm.trans hi)
      have h43 := ev 1 (by decide) (haft 1 (by decide))
      have h50 := ev 8 (by decide) (haft 8 (by decide))
      simp only [val8] at h43 h50
      have hr9 : (execOp a.eval o9).run Tryz.prog w' = .ok (.value v') w2 := by
        have ho' : o9.op = .call { callee := .builtin .append, args := #[.tmp 43, .tmp 50], argTypes := #[34, 34] } := ho
        simp [execOp, ho', h43, h50, resolve, invoke, builtin, hrun9]
      rw [hr9]
      refine ⟨.inr rfl, fun h => absurd ((hx 8 (by decide)).2 (haft 8 (by decide))) h, fun _ h => absurd ((ex1_set hil 9).2 (.inl rfl)) h, fun _ _ => rfl, fun h => absurd ((hx 11 (by decide)).1 h) hn11⟩
    | 10, _ => exact pure1 _ rfl (by decide) (by decide) (by decide) (rn_fa ho e7 (by rw [fa36]; rfl))
    | 11, _ =>
      have h9 := haft 9 (by decide)
      obtain rfl : w' = w2 := hW.2.2.1 h9 hn11
      have h51 := ev 9 (by decide) h9
      have h52 := ev 10 (by decide) (haft 10 (by decide))
      simp only [val8] at h51 h52
      have ho' : op.op = .store 34 (.tmp 52) (.tmp 51) := ho
      have hr11 : (execOp a.eval op).run Tryz.prog w' = .ok .skip w3 := by
        simp [execOp, ho', h51, h52, hst]
      rw [hr11]
      exact ⟨.inl rfl, fun h => absurd ((hx 8 (by decide)).2 (h98 h9)) h, fun _ h => absurd ((hx 9 (by decide)).2 h9) h, fun _ h => absurd ((ex1_set hil 11).2 (.inl rfl)) h, fun _ => rfl⟩
  · refine List.all_eq_true.2 fun i hi => ?_
    have hi12 : i < 12 := by rw [← hsz]; exact List.mem_range.1 hi
    obtain ⟨op, hop⟩ : ∃ op, ops8[i]? = some op := ⟨_, List.getElem?_eq_getElem (by rw [len8]; exact hi12)⟩
    have hop' : ops[i]? = some op := by rw [← hops] at hop; simpa using hop
    rw [hop']
    simp only [(hget i op hop).2.2.2.2]
    revert hi12
    exact (by decide : ∀ i < 12, (afs8.getD i []).all (fun j => decide (j < i)) = true) i
  · have hn : ∀ k, ¬ Ex1 (Array.replicate ops.size false) k := fun k hk => by
      unfold Ex1 at hk
      simp only [Array.getD_eq_getD_getElem?, Array.getElem?_replicate] at hk
      split at hk <;> simp at hk
    exact ⟨fun _ => hw0, fun h => absurd h (hn 8), fun h => absurd h (hn 9), fun h => absurd h (hn 11)⟩
  · exact hfin l a' w' hT (hW.2.2.2 (hall 11 (by rw [hsz]; decide)))
end Go.Proofs.YtmhbkofbbkogeaaGreat
