/-
  Trial, walked.
-/
import Derived.Test.YtggmlfmhinafhaaMoves
import Derived.Test.YtggmlfmhinafhaaReg2
import Derived.Test.YtggmlfmhinafhaaVmS
namespace Go.Proofs.Ytggmlfmhinafhaa
open Go.RowKit Go.Shelf Go.VM
attribute [local go_sem] Oper.semAt_some
abbrev LegR := Int × Int × ByteArray
def addS (l : Sums) (x : LegR) : Sums := setS l (x.1, x.2.2) (wrap64 (getS l (x.1, x.2.2) + x.2.1))
def addAll (l : Sums) (xs : List LegR) : Sums := xs.foldl addS l
def sumsOf (es : List Ev) : Sums := es.foldl (fun l e => addAll l e.legs) []
theorem addAll_succ {l : Sums} {xs : List LegR} {m : Nat} {x : LegR} (h : xs[m]? = some x) : addAll l (xs.take (m + 1)) = addS (addAll l (xs.take m)) x := by
  unfold addAll
  rw [List.take_add_one, h, List.foldl_append]; rfl
theorem sumsOf_succ {es : List Ev} {k : Nat} {e : Ev} (h : es[k]? = some e) : sumsOf (es.take (k + 1)) = addAll (sumsOf (es.take k)) e.legs := by
  unfold sumsOf
  rw [List.take_add_one, h, List.foldl_append]; rfl
def MapAt (W : World) (b : Nat) (l : Sums) : Prop := ∃ es clock, W.heap[b]? = some (.map es clock) ∧ Ent es clock l
theorem MapAt.alloc {W : World} {b : Nat} {l : Sums} (h : MapAt W b l) (o : Obj) : MapAt (W.alloc o) b l := by
  obtain ⟨es, clock, h1, h2⟩ := h
  exact ⟨es, clock, (Below.heap_alloc W o b (Array.getElem?_eq_some_iff.1 h1).1).trans h1, h2⟩
theorem perm_eraseIdx {α : Type} {a : α} : ∀ {l : List α} {i : Nat}, l[i]? = some a → (a :: l.eraseIdx i).Perm l
  | [], _, h => by simp at h
  | x :: r, 0, h => by
    simp only [List.getElem?_cons_zero, Option.some.injEq] at h
    subst h; exact .refl _
  | x :: r, i + 1, h => by
    simp only [List.getElem?_cons_succ] at h
    rw [List.eraseIdx_cons_succ]
    exact (List.Perm.swap x a _).trans ((perm_eraseIdx h).cons x)
theorem setS_len (k : Key) (n : Int) : ∀ l : Sums, (setS l k n).length ≤ l.length + 1
  | [] => Nat.le_refl _
  | (k', v) :: r => by
    unfold setS
    split
    · simp
    · have := setS_len k n r
      simp only [List.length_cons]; omega
theorem addAll_len : ∀ (xs : List LegR) (l : Sums), (addAll l xs).length ≤ l.length + xs.length
  | [], l => by simp [addAll]
  | x :: xs, l => by
    have h1 : addAll l (x :: xs) = addAll (addS l x) xs := rfl
    have h2 := addAll_len xs (addS l x)
    have h3 := setS_len (x.1, x.2.2) (wrap64 (getS l (x.1, x.2.2) + x.2.1)) l
    rw [h1]
    unfold addS at h2 ⊢
    simp only [List.length_cons]
    omega
theorem sumsOf_len {es : List Ev} (h : ∀ e ∈ es, e.legs.length ≤ 400) : (sumsOf es).length ≤ es.length * 400 := by
  have key : ∀ (es : List Ev) (l : Sums), (∀ e ∈ es, e.legs.length ≤ 400) → (es.foldl (fun l e => addAll l e.legs) l).length ≤ l.length + es.length * 400 := by
    intro es
    induction es with
    | nil => intro l _; simp
    | cons e es ih =>
      intro l h
      rw [List.foldl_cons]
      have h1 := ih (addAll l e.legs) fun x hx => h x (List.mem_cons_of_mem _ hx)
      have h2 := addAll_len e.legs l
      have h3 := h e (List.mem_cons_self ..)
      simp only [List.length_cons]
      omega
  have := key es [] h
  simp only [List.length_nil, Nat.zero_add] at this
  exact this
def legVals (x : Key × Int) : List Value := [.int .i64 x.1.1, .int .i64 x.2, .string x.1.2]
def outT (T : Sums) : Sums := T.filter fun x => x.2 != 0
/-- A range under way: what has come, what is left. -/
structure Rng (N r : Nat) (esM : Array MapEntry) (clock : Nat) (l T : Sums) (v : Value) (W : World) : Prop where
  it : ∃ seen c L, W.heap[r]? = some (.mapIter (some N) clock seen c) ∧ clock ≤ c ∧ (leftOf esM seen).toList.map (fun e => (e.key, e.val)) = L.map kvE ∧ (T ++ L).Perm l
  map : W.heap[N]? = some (.map esM clock)
  row : W.ownsRow (N + 1) 44 3 v (outT T).length ((outT T).flatMap legVals)
def leftN (r : Nat) (esM : Array MapEntry) (W : World) : Nat := match W.heap[r]? with
  | some (.mapIter _ _ seen _) => (leftOf esM seen).size
  | _ => 0
/-- slices.SortFunc at these legs. -/
def SortL (T srt : Sums) : Prop := ∀ (W : World) (base : Nat) (u : Value), base ≤ W.heap.size → W.ownsRow base 44 3 u T.length (T.flatMap legVals) →
  Calls Try.prog 30 #[u, .func (.func 31) #[] #[]] W fun ex W' => ex = .returned (.tuple #[]) ∧ W.grownBy W' u.ownBlock ∧ W'.ownsRow base 44 3 u srt.length (srt.flatMap legVals)
theorem outT_zero (T : Sums) (k : Key) : outT (T ++ [(k, 0)]) = outT T := by simp [outT]
theorem outT_some (T : Sums) (k : Key) {n : Int} (h : n ≠ 0) : outT (T ++ [(k, n)]) = outT T ++ [(k, n)] := by simp [outT, h]
theorem leftN_of {r : Nat} {esM : Array MapEntry} {W : World} {m : Option Nat} {s c : Nat} {seen : Array Nat} (h : W.heap[r]? = some (.mapIter m s seen c)) : leftN r esM W = (leftOf esM seen).size := by unfold leftN; rw [h]
theorem info44 : (Try.prog.info? 44).map (fun i => (i.zero, i.size, i.bytes)) = some (some (.agg #[.int .i64 0, .int .i64 0, .string ⟨#[]⟩]), 3, 32) := by kernel_rfl
set_option maxRecDepth 100000 in
set_option maxHeartbeats 4000000 in
theorem trial_in (n : Nat) (hn : 3 ≤ n) (a : Option Addr) (cap : Nat) (es : List Ev) (w : World) (hlen : es.length ≤ 400) (hlegs : ∀ e ∈ es, e.legs.length ≤ 400) (hkeys : ∀ e ∈ es, ∀ x ∈ e.legs, KeyOk (x.1, x.2.2))
    (hE : EntsAt (fun b => b < w.heap.size) w a es) {srt : Sums} (hS : ∀ T : Sums, T.Perm (sumsOf es) → SortL (outT T) srt) :
    CallsIn Fence.wide n Try.prog 22 #[.slice a es.length cap] w fun e W' => ∃ v, e = .returned v ∧ W'.ownsRow w.heap.size 44 3 v srt.length (srt.flatMap legVals) ∧ Below w.heap.size w W' := by
  have hro : Fence.wide.round = none := rfl
  have h1 : 1 ≤ n := by omega
  have h30 : Fence.wide.fn 30 := trivial
  have hmm := @run_makeMap Try.prog
  obtain ⟨N, hN⟩ : ∃ N, w.heap.size = N := ⟨_, rfl⟩
  refine callsIn_of_wp Try.func22 rfl trivial ?_ hro
  simp only [Try.ntmps22, List.size_toArray, List.length_cons, List.length_nil, Nat.reduceAdd, Nat.reduceSub, Array.replicate_succ, Array.replicate_zero, List.push_toArray, List.append_toArray, List.nil_append, List.cons_append]
  gi_wp2
  rw [hN] at hE
  gi_loopw [14] (fun i wr => ∃ k : Nat, k ≤ es.length ∧ i = .int .i64 k ∧ MapAt wr N (sumsOf (es.take k)) ∧ Below N w wr)
    (fun i _ => es.length - (intOf i).toNat)
  case atStart => exact ⟨0, Nat.zero_le _, rfl, ⟨#[], 0, by rw [← hN]; exact World.alloc_heap_new w _, Ent.nil⟩, by rw [← hN]; exact (Below.refl _ w).alloc (Nat.le_refl _) _⟩
  case round =>
    obtain ⟨k, hk, rfl, hM, hB⟩ := hrel
    obtain ⟨w1, rfl⟩ : ∃ w1, w1 = wr := ⟨wr, rfl⟩
    have hEw := hE.bel (fun b hb => hb) hB
    have hNw := hB.size
    by_cases hlt : k < es.length
    · obtain ⟨e, he⟩ : ∃ e, es[k]? = some e := ⟨_, List.getElem?_eq_getElem hlt⟩
      have hle := hlegs e (List.mem_of_getElem? he)
      have hke := hkeys e (List.mem_of_getElem? he)
      obtain rfl | ⟨b, o, rfl, hb, hc⟩ := hEw
      · cases hlt
      obtain ⟨⟨h0, h1, h2, h3, h4, h5, h6, h7, h8, h9⟩, hL⟩ := hc k e he
      gi_wp2
      gi_loopw [21] (fun i wr => ∃ m : Nat, m ≤ e.legs.length ∧ i = .int .i64 m ∧ MapAt wr N (addAll (sumsOf (es.take k)) (e.legs.take m)) ∧ Below N w wr)
        (fun i _ => e.legs.length - (intOf i).toNat)
      case atStart => exact ⟨0, Nat.zero_le _, rfl, hM.alloc _, hB.alloc (by omega) _⟩
      case round =>
        obtain ⟨m, hm, rfl, hM2, hB2⟩ := hrel
        by_cases hlt2 : m < e.legs.length
        · obtain ⟨x, hx⟩ : ∃ x, e.legs[m]? = some x := ⟨_, List.getElem?_eq_getElem hlt2⟩
          have hkx := hke x (List.mem_of_getElem? hx)
          have hsx := addAll_succ (l := sumsOf (es.take k)) hx
          obtain ⟨xa, xm, xs⟩ := x
          have hEr := hE.bel (fun b hb => hb) hB2
          rcases hEr with hEr | ⟨b', o', hab, hb', hc'⟩
          · rw [hEr] at hlt; cases hlt
          cases hab
          rcases (hc' k e he).2 with hL' | ⟨b2, o2, hla, hb2, hcl⟩
          · rw [hL'] at hlt2; cases hlt2
          obtain ⟨l0, l1, l2⟩ := hcl m _ hx
          dsimp only at l0 l1 l2
          obtain ⟨i0, i1, i2, i3, i4, i5, s6, s7, la, lc, legs, u9⟩ := e
          dsimp only at *
          subst hla
          obtain ⟨es', clock', hM3, hM4⟩ := hM2
          gi_wp2
          have hnew := World.alloc_heap_new wr (.cells #[.int .i64 xa, .int .i64 xm, .string xs] 44)
          have hBx := hB2.alloc (by have := hB2.size; omega) (.cells #[.int .i64 xa, .int .i64 xm, .string xs] 44)
          refine wpIn_wide.2 (reg22 (b := N) (X := wr.heap.size) (k := (xa, xs)) (am := xm) rfl rfl rfl ((Below.heap_alloc wr _ N (Array.getElem?_eq_some_iff.1 hM3).1).trans hM3) hM4 hkx (by unfold World.cell?; rw [hnew]; rfl) (by unfold World.cell?; rw [hnew]; rfl) (by unfold World.cell?; rw [hnew]; rfl) (by kernel_rfl) ?_)
          intro st w2 es2 clock2 hg hb2' hE2
          gi_wp2
          exact ⟨⟨m + 1, by omega, by simp, ⟨es2, clock2, hb2', by rw [hsx]; exact hE2⟩, hBx.drew.grown hg (by rw [← hN]; exact hBx.drew.size) (fun k e => by cases e; exact Nat.le_refl _)⟩, by simp [intOf]; omega⟩
        · obtain rfl : m = e.legs.length := by omega
          gi_wp2
          rw [List.take_length] at hM2
          exact ⟨⟨k + 1, by omega, by simp, by rw [sumsOf_succ he]; exact hM2, hB2⟩, by simp [intOf]; omega⟩
    · obtain rfl : k = es.length := by omega
      rw [List.take_length] at hM
      obtain ⟨esM, clock, hM1, hM2⟩ := hM
      have hrg := run_range_map (P := Try.prog) w1 53 55 3 N esM clock Try.underlying53 hM1
      have hsw := hB.size
      rw [hN] at hsw
      obtain ⟨ii, hi, hz0, hz1, hz2⟩ := info_parts info44
      have hNlt := (Array.getElem?_eq_some_iff.1 hM1).1
      obtain ⟨r, hr⟩ : ∃ r, w1.heap.size = r := ⟨_, rfl⟩
      rw [hr] at hrg hNlt
      gi_wp2
      gi_loopw [8] (fun v wr => ∃ T, Rng N r esM clock (sumsOf es) T v wr ∧ Below N w wr ∧ r < wr.heap.size)
        (fun _ wr => leftN r esM wr)
      case atStart =>
        refine ⟨[], ⟨⟨#[], clock, sumsOf es, by rw [← hr]; exact World.alloc_heap_new w1 _, Nat.le_refl _, ?_, by simp⟩, (Below.heap_alloc w1 _ N (by omega)).trans hM1, World.ownsRow_nil _ _ _ _⟩, hB.alloc (by omega) _, by simp; omega⟩
        rw [show leftOf esM #[] = esM by simp [leftOf]]
        exact hM2.eq
      case round =>
        obtain ⟨T, ⟨⟨seen, c, L, hit, hcc, hleft, hperm⟩, hmap, hrow⟩, hB3, hrs⟩ := hrel
        have hlm : leftN r esM wr = (leftOf esM seen).size := by unfold leftN; rw [hit]
        rcases run_next_at (P := Try.prog) wr 0 r N clock c seen esM clock hit hmap hM2.born hcc with ⟨h0, hnx⟩ | ⟨e, he, wq, hwq, hnx⟩
        · have hL0 : L = [] := by
            have h1 := congrArg List.length hleft
            simp only [List.length_map, Array.length_toList] at h1
            exact List.eq_nil_of_length_eq_zero (by omega)
          subst hL0
          rw [List.append_nil] at hperm
          gi_wp2
          refine (callsIn_wide.2 (hS T hperm wr (N + 1) u8 (by omega) hrow)).mono ?_
          rintro e w2 ⟨rfl, hg, hrow2⟩
          have hB5 := hB3.grown hg (by have := hB3.size; omega) (fun k e => by have := row_ge hrow k e; omega)
          gi_wp2
          go_ret
          exact ⟨_, rfl, ownsRow_low (by omega) hrow2, by rw [hN]; exact hB5⟩
        · obtain ⟨i, hie⟩ := List.getElem?_of_mem he
          have hki := congrArg (fun l => l[i]?) hleft
          simp only [List.getElem?_map, hie, Option.map_some] at hki
          obtain ⟨kn, hkn⟩ : ∃ kn, L[i]? = some kn := by
            cases hl : L[i]? with
            | none => rw [hl] at hki; cases hki
            | some kn => exact ⟨kn, rfl⟩
          rw [hkn] at hki
          obtain ⟨⟨ka, ks⟩, n0⟩ := kn
          simp only [Option.map_some, Option.some.injEq, kvE, kvK, Prod.mk.injEq] at hki
          obtain ⟨hk1, hk2⟩ := hki
          have hwh : wq.heap = wr.heap := by rcases hwq with rfl | rfl <;> rfl
          obtain ⟨w2, hw2⟩ : ∃ w2, ChangeMaps.setBlock wq r (.mapIter (some N) clock (seen.push e.born) clock) = w2 := ⟨_, rfl⟩
          rw [hw2, hk1, hk2] at hnx
          have hit2 : w2.heap[r]? = some (.mapIter (some N) clock (seen.push e.born) clock) := by rw [← hw2]; exact setBlock_at (by rw [hwh]; exact hit)
          have hoth : ∀ b, b ≠ r → w2.heap[b]? = wr.heap[b]? := fun b hb => by rw [← hw2, setBlock_other hb, hwh]
          have hsz2 : w2.heap.size = wr.heap.size := by rw [← hw2, setBlock_size, hwh]
          have hmap2 : w2.heap[N]? = some (.map esM clock) := (hoth N (by omega)).trans hmap
          have hent := run_entry_at (P := Try.prog) w2 r N clock seen esM clock e hit2 hmap2 (mem_left he).1 hM2.nodup
          rw [hk1, hk2] at hent
          have hg2 : wr.grownBy w2 (some r) := ⟨by rw [← hw2]; rcases hwq with rfl | rfl <;> rfl, by rw [← hw2]; rcases hwq with rfl | rfl <;> rfl, by rw [← hw2]; rcases hwq with rfl | rfl <;> rfl, by omega, fun k _ hk => hoth k fun e => hk (by rw [e])⟩
          have hiL : i < L.length := (List.getElem?_eq_some_iff.1 hkn).1
          have hrow2 : w2.ownsRow (N + 1) 44 3 u8 (outT T).length ((outT T).flatMap legVals) := hrow.kept hg2 (by
            rcases hrow.2 with ⟨h, _⟩ | ⟨g, cap, cur, h, _, hg, _⟩
            · exact .inl (by rw [h]; rfl)
            · refine .inr fun e' => ?_
              rw [h] at e'
              obtain rfl : g = r := by simpa [Value.ownBlock] using e'
              rw [hg] at hit; cases hit)
          have hB4 : Below N w w2 := hB3.grown hg2 (by have := hB3.size; omega) (fun k e => by cases e; omega)
          have hle2 : wr.heap.size ≤ w2.heap.size := by omega
          have hL2 : ∃ L', (leftOf esM (seen.push e.born)).toList.map (fun e => (e.key, e.val)) = L'.map kvE ∧ (T ++ [((ka, ks), n0)] ++ L').Perm (sumsOf es) := by
            refine ⟨L.eraseIdx i, ?_, ?_⟩
            · rw [left_next hM2.nodup hie, List.eraseIdx_eq_take_drop_succ, List.eraseIdx_eq_take_drop_succ, List.map_append, List.map_append, List.map_take, List.map_drop, hleft, List.map_take, List.map_drop]
            · refine List.Perm.trans ?_ hperm
              rw [List.append_assoc]
              refine List.Perm.append_left T ?_
              exact perm_eraseIdx hkn
          have hlt2 : (leftOf esM (seen.push e.born)).size < leftN r esM wr := by rw [hlm]; exact left_shrinks esM seen e he
          have hTl : (outT T).length ≤ (sumsOf es).length := by
            have h1 : (outT T).length ≤ T.length := List.length_filter_le _ _
            have h2 := hperm.length_eq
            simp only [List.length_append] at h2
            omega
          clear hw2 hsz2 hoth hlm
          obtain ⟨L', hL1, hL3⟩ := hL2
          have hsl := sumsOf_len hlegs
          by_cases hz : n0 = 0
          · subst hz
            gi_wp2
            have hit3 := (Below.heap_alloc w2 (.cells #[.int .i64 ka, .string ks] 55) r (by omega)).trans hit2
            refine ⟨⟨T ++ [((ka, ks), 0)], ⟨⟨_, _, L', hit3, Nat.le_refl _, hL1, hL3⟩, (Below.heap_alloc w2 _ N (by omega)).trans hmap2, by rw [outT_zero]; exact hrow2.alloc _⟩, hB4.alloc (by omega) _, by simp; omega⟩, ?_⟩
            rw [leftN_of hit3]
            exact hlt2
          · gi_wp2_with (gi_at_builtin; refine wpListIn_append_own _ rfl _ _ 37 rfl (N + 1) 44 ii _ 3 32 Try.underlying37 hi hz0 hz1 hz2 rfl (by decide) _ _ _ rfl ((hrow2.alloc _).alloc _) _ 1 1 [.int .i64 ka, .int .i64 n0, .string ks] rfl rfl ?_ ?_ ?_ ?_ ?_ ?_)
            · intro j u hj
              have hnew := World.alloc_heap_new (w2.alloc (.cells #[.int .i64 ka, .string ks] 55)) (.cells #[.int .i64 ka, .int .i64 n0, .string ks] 44)
              rw [World.size_alloc] at hnew
              simp only [World.cell?, add_block, hnew]
              match j, hj with
              | 0, hj => simpa [Addr.add] using hj
              | 1, hj => simpa [Addr.add] using hj
              | 2, hj => simpa [Addr.add] using hj
              | _ + 3, hj => simp at hj
            · intro u hu
              simp only [List.mem_cons, List.not_mem_nil, or_false] at hu
              rcases hu with rfl | rfl | rfl <;> rfl
            · simp only [maxLen]; omega
            · omega
            · simp; omega
            · intro v' w3 hown' hgrow _
              gi_wp2
              have hlt3 : ∀ b, b < w2.heap.size → ((w2.alloc (.cells #[.int .i64 ka, .string ks] 55)).alloc (.cells #[.int .i64 ka, .int .i64 n0, .string ks] 44)).heap[b]? = w2.heap[b]? := fun b hb => (Below.heap_alloc _ _ b (by simp; omega)).trans (Below.heap_alloc _ _ b hb)
              have hkeep : ∀ b, b < w2.heap.size → (∀ o, w2.heap[b]? = some o → o.isCells = false) → w3.heap[b]? = w2.heap[b]? := fun b hb ho => (hgrow.block b (by simp; omega) fun e' => by
                have := row_cells ((hrow2.alloc (.cells #[.int .i64 ka, .string ks] 55)).alloc (.cells #[.int .i64 ka, .int .i64 n0, .string ks] 44)) b _ e'.symm ((hlt3 b hb).trans (Array.getElem?_eq_getElem hb))
                rw [ho _ (Array.getElem?_eq_getElem hb)] at this
                cases this).trans (hlt3 b hb)
              have hit3 := (hkeep r (by omega) (fun o ho => by rw [hit2] at ho; cases ho; rfl)).trans hit2
              have hsz3 : w2.heap.size ≤ w3.heap.size := by have := hgrow.size; simp at this; omega
              refine ⟨⟨T ++ [((ka, ks), n0)], ⟨⟨_, _, L', hit3, Nat.le_refl _, hL1, hL3⟩, (hkeep N (by omega) (fun o ho => by rw [hmap2] at ho; cases ho; rfl)).trans hmap2, ?_⟩, ?_, by omega⟩, ?_⟩
              · rw [outT_some _ _ hz, List.length_append, List.flatMap_append]
                exact hown'
              · refine ((hB4.alloc (by omega) _).alloc (by simp; omega) _).grown hgrow (by simp; omega) fun k e => ?_
                have := row_ge hrow2 k e
                omega
              · rw [leftN_of hit3]; exact hlt2
end Go.Proofs.Ytggmlfmhinafhaa
