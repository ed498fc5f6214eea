/-
  The reference's add writes into the list that it is given, and hands it, or a new one, back: out of its code.
-/
import Derived.Test.YtggmlfmhinafhaaCode
import Derived.Test.YtggmlfmhinafhaaVmN
import Derived.Test.YtggmlfmhinafhaaVmQ
namespace Go.Proofs.Ytggmlfmhinafhaa
open Go.VM
/-! ### The code of add -/
def body35_1 : C :=
 (.seq (.seq (.q [(18, (.ite (.op (.bin .lss) [(.sl 5), (.op .len [(.sl 0)])]) (.op (.call true 42) [(.op (.ld 3 true) [(.op (.ix 3) [(.sl 0), (.sl 5)])]), (.op (.ld 3 true) [(.sl 3)])]) (.k (.b false))))])
 (.cond (.sl 18) .skip (.exit 0 [0, 3, 5])))
 (.blk 1 (.q [(5, (.op (.bin .add) [(.sl 5), (.k (.i .i64 1))]))])))
def code35 : FCode := ⟨2, [.tmp 4],
 (.seq (.s [.box 3 (.t 1), .as 4 (.c (.ow 44 []))] [])
 (.seq (.q [(5, (.k (.i .i64 0)))])
 (.seq (.blk 0 (.loop [0, 3, 5] body35_1))
 (.seq (.seq (.q [(33, (.ite (.op (.bin .lss) [(.sl 5), (.op .len [(.sl 0)])]) (.op (.un .not) [(.op (.call true 42) [(.op (.ld 3 true) [(.sl 3)]), (.op (.ld 3 true) [(.op (.ix 3) [(.sl 0), (.sl 5)])])])]) (.k (.b false))))])
 (.cond (.sl 33) (.seq (.d [.mv 34 (.t 0), .mv 35 (.t 5), .mv 36 (.t 0), .mv 37 (.t 5), .ix 38 3 (.t 36) (.t 37), .fa 39 1 1 (.t 38), .q 40 (.ld 1 false) [(.t 39)], .fa 41 1 1 (.t 3), .q 42 (.ld 1 false) [(.t 41)], .q 43 (.bin .add) [(.t 40), (.t 42)], .ix 44 3 (.t 34) (.t 35), .fa 45 1 1 (.t 44), .sto 1 (.t 45) (.t 43)] [[], [], [], [], [2, 3], [2, 3, 4], [2, 3, 4, 5], [], [7], [2, 3, 4, 5, 6, 7, 8], [0, 1, 2, 3, 4, 5, 6, 7, 8, 9], [0, 1, 2, 3, 4, 5, 6, 7, 8, 9, 10], [0, 1, 2, 3, 4, 5, 6, 7, 8, 9, 10, 11]] [34, 35, 36, 37, 38, 39, 40, 41, 42, 43, 44, 45])
 (.seq (.s [.mv 46 (.t 0), .as 4 (.t 46)] [46])
 (.ret [4]))) .skip))
 (.seq (.s [.bsl 47 44 3 [], .mv 48 (.t 0), .mv 49 (.t 5), .slc 50 3 false true [(.t 48), (.t 49)], .app 51 44 3 32 (.t 47) (.t 50), .as 6 (.t 51)] [47, 48, 49, 50, 51])
 (.seq (.s [.mv 52 (.t 6), .q 53 (.ld 3 true) [(.t 3)], .bsl 54 44 3 [(.t 53)], .app 55 44 3 32 (.t 52) (.t 54), .as 6 (.t 55)] [52, 53, 54, 55])
 (.seq (.s [.mv 56 (.t 6), .mv 57 (.t 0), .mv 58 (.t 5), .slc 59 3 true false [(.t 57), (.t 58)], .app 60 44 3 32 (.t 56) (.t 59), .as 4 (.t 60)] [56, 57, 58, 59, 60])
 (.ret [4]))))))))⟩
theorem comp35 : @compile Try.prog glob0 Try.f35 = some code35 := by kernel_rfl
theorem comp42g : @compile Try.prog glob0 Try.f42 = some code42 := by kernel_rfl
theorem okf35 : okFn Try.prog 35 = true := by kernel_rfl
def tabM (f : Nat) : Option FCode := if f = 42 then some code42 else none
noncomputable abbrev OM : Orc := den tabM fun _ _ => none
theorem e42 (x y : L3) : OM 42 [l3V x, l3V y] = some (.b (lt3 x y)) := by
  refine VM.run (fc := code42) rfl rfl rfl ?_
  obtain ⟨xa, xm, xc⟩ := x
  obtain ⟨ya, ym, yc⟩ := y
  by_cases h1 : xa < ya
  · simp [code42, l3V, lt3, h1]
  · by_cases h2 : xa = ya
    · subst h2; simp [code42, l3V, lt3]
    · simp [code42, l3V, lt3, h1, h2]
theorem up3_le (x : L3) : ∀ l, up3 x l ≤ l.length
  | [] => Nat.le_refl _
  | y :: r => by
    unfold up3
    have := up3_le x r
    split <;> simp <;> omega
theorem up3_lt (x : L3) : ∀ (l : List L3) (i : Nat) (h : i < up3 x l), lt3 (l[i]'(Nat.lt_of_lt_of_le h (up3_le x l))) x = true
  | [], i, h => absurd h (by simp [up3])
  | y :: r, i, h => by
    unfold up3 at h
    split at h
    · rename_i hy
      cases i with
      | zero => exact hy
      | succ i => exact up3_lt x r i (by omega)
    · omega
theorem up3_at (x : L3) : ∀ (l : List L3) (h : up3 x l < l.length), lt3 l[up3 x l] x = false
  | [], h => absurd h (by simp)
  | y :: r, h => by
    by_cases hy : lt3 y x = true
    · have hu : up3 x (y :: r) = up3 x r + 1 := by rw [up3, if_pos hy]
      have h' : up3 x r < r.length := by rw [hu] at h; simpa using h
      have := up3_at x r h'
      simp only [hu, List.getElem_cons_succ]
      exact this
    · have hu : up3 x (y :: r) = 0 := by rw [up3, if_neg hy]
      simp only [hu, List.getElem_cons_zero]
      simpa using hy
abbrev l3s (l : List L3) : List V := encL l3V l
theorem l35 (l : List L3) (x : L3) (hl : l.length ≤ 1000000) : loopK OM [0, 3, 5] body35_1 [(0, .ow 44 (l3s l)), (3, .bx (l3V x).cells), (5, .i .i64 0)] = some (.e 0, [(0, .ow 44 (l3s l)), (3, .bx (l3V x).cells), (5, .i .i64 (up3 x l))]) := by
  have hle := up3_le x l
  refine loopK_run (o := OM) (kin := [0, 3, 5]) (c := body35_1) (fun i => [(0, .ow 44 (l3s l)), (3, .bx (l3V x).cells), (5, .i .i64 i)]) (up3 x l) (.e 0, [(0, .ow 44 (l3s l)), (3, .bx (l3V x).cells), (5, .i .i64 (up3 x l))]) (by simp) (fun i hi => ?_) ?_ (by simp)
  · have hw := wrap_i64 (i + 1) (by omega)
    have hil : i < l.length := by omega
    have h42 := e42 l[i] x
    rw [up3_lt x l i hi] at h42
    simp only [l3V] at h42
    simp [body35_1, hil, hw, l3V, h42]
  · by_cases hu : up3 x l < l.length
    · have h42 := e42 l[up3 x l] x
      rw [up3_at x l hu] at h42
      simp only [l3V] at h42
      simp [body35_1, hu, l3V, h42]
    · have hu' : up3 x l = l.length := by omega
      simp [body35_1, hu', l3V]
theorem slc_take (o : Orc) (l : List L3) (k : Nat) (hk : k ≤ l.length) : opQ o (.slc 3 false true) [.l (l3s l), .i .i64 (k : Int)] = some (.l (l3s (l.take k))) := by
  have hb : bnds (l3s l).length false true [.i .i64 (k : Int)] = some (0, k) := by
    have : (k : Int) ≤ ((l3s l).length : Int) := by simp; omega
    simp only [bnds]
    rw [if_pos ⟨by omega, this⟩]
    simp
  have ha : (l3s l).all (fun x => x.cells.length == 3) = true := encL_all fun _ => rfl
  simp only [opQ, ha, if_true, hb, Option.map_some, List.drop_zero]
  simp [encL]
theorem slc_drop (o : Orc) (l : List L3) (k : Nat) (hk : k ≤ l.length) : opQ o (.slc 3 true false) [.l (l3s l), .i .i64 (k : Int)] = some (.l (l3s (l.drop k))) := by
  have hb : bnds (l3s l).length true false [.i .i64 (k : Int)] = some (k, l.length) := by
    have : (k : Int) ≤ ((l3s l).length : Int) := by simp; omega
    simp only [bnds]
    rw [if_pos ⟨by omega, this⟩]
    simp
  have ha : (l3s l).all (fun x => x.cells.length == 3) = true := encL_all fun _ => rfl
  simp only [opQ, ha, if_true, hb, Option.map_some]
  simp only [encL]
  rw [List.take_of_length_le (by simp), List.map_drop]
@[simp] theorem l3_all (l : List L3) : (l3s l).all (fun x => x.cells.length == 3) = true := encL_all fun _ => rfl
@[simp] theorem l3_len (l : List L3) : (∀ x ∈ l3s l, x.cells.length = 3) = True := encL_len fun _ => rfl
set_option maxHeartbeats 4000000 in
theorem e35 (l : List L3) (x : L3) (hl : l.length ≤ 1000000) : retE code35.res (exec OM code35.body (args0 0 (insAt 0 (.ow 44 (l3s l)) [l3V x]))) = some (.ow 44 (l3s (add3 l x))) := by
  show retE code35.res (exec OM code35.body (args0 0 [.ow 44 (l3s l), l3V x])) = _
  have hl35 := l35 l x hl
  simp only [l3V, V.cells] at hl35
  have hle := up3_le x l
  have ht := slc_take OM l (up3 x l) hle
  have hd := slc_drop OM l (up3 x l) hle
  by_cases hu : up3 x l < l.length
  · have h42 := e42 x l[up3 x l]
    simp only [l3V] at h42
    by_cases hx : lt3 x l[up3 x l] = true
    · rw [hx] at h42
      have ha : add3 l x = l.take (up3 x l) ++ x :: l.drop (up3 x l) := by
        unfold add3
        rw [List.getElem?_eq_getElem hu]
        simp only
        rw [if_pos hx]
      rw [ha]
      have hm1 : (l.take (up3 x l)).length * 32 ≤ 140737488355328 := by rw [List.length_take]; omega
      have hm2 : ((l.take (up3 x l)).length + 1) * 32 ≤ 140737488355328 := by rw [List.length_take]; omega
      have hm3 : ((l.take (up3 x l)).length + 1 + (l.drop (up3 x l)).length) * 32 ≤ 140737488355328 := by rw [List.length_take, List.length_drop]; omega
      generalize l.take (up3 x l) = l1 at ht hm1 hm2 hm3 ⊢
      generalize l.drop (up3 x l) = l2 at hd hm3 ⊢
      generalize hgk : up3 x l = k at *
      simp (config := { maxSteps := 1000000 }) [code35, exec_loopK, hl35, l3V, hu, h42, ht, hd, hm1, hm2, hm3]
      simp [encL, l3V]
    · have hx' : lt3 x l[up3 x l] = false := by simpa using hx
      rw [hx'] at h42
      have ha : add3 l x = l.set (up3 x l) (l[up3 x l].1, IntKind.i64.wrap (l[up3 x l].2.1 + x.2.1), l[up3 x l].2.2) := by
        unfold add3
        rw [List.getElem?_eq_getElem hu]
        simp only
        rw [if_neg hx]
      rw [ha]
      generalize hgk : up3 x l = k at *
      simp (config := { maxSteps := 3000000 }) [code35, exec_loopK, hl35, l3V, hu, h42]
      simp only [encL, List.map_set]
      rfl
  · have hu' : up3 x l = l.length := by omega
    have ha : add3 l x = l ++ [x] := by
      unfold add3
      rw [List.getElem?_eq_none (by omega)]
    rw [ha]
    rw [hu'] at hl35 ht hd
    rw [List.take_length] at ht
    rw [List.drop_length] at hd
    have hm1 : l.length * 32 ≤ 140737488355328 := by omega
    have hm2 : (l.length + 1) * 32 ≤ 140737488355328 := by omega
    simp (config := { maxSteps := 1000000 }) [code35, exec_loopK, hl35, l3V, ht, hd, hm1, hm2]
    simp [encL, l3V]
theorem to3_eq {x : V} {y : L3} (h : to3 x = some y) : x = l3V y := by
  unfold to3 at h
  split at h
  · cases h; rfl
  · cases h
theorem to3s_eq : ∀ {xs : List V} {l : List L3}, to3s xs = some l → xs = l3s l
  | [], l, h => by cases h; rfl
  | x :: r, l, h => by
    simp only [to3s, Option.bind_eq_some_iff, Option.map_eq_some_iff] at h
    obtain ⟨y, hy, l', hl, rfl⟩ := h
    rw [to3_eq hy, to3s_eq hl]; rfl
theorem l3s_some (l : List L3) : to3s (l3s l) = some l := by
  induction l with
  | nil => rfl
  | cons x r ih => 
    show (to3 (l3V x)).bind (fun y => (to3s (l3s r)).map (y :: ·)) = _
    rw [ih]; rfl
theorem addRun_inv {es xs es' : List V} (h : addRun es xs = some es') : ∃ (l : List L3) (x : L3), es = l3s l ∧ xs = [l3V x] ∧ l.length ≤ 1000000 ∧ es' = l3s (add3 l x) := by
  unfold addRun at h
  split at h
  · simp only [Option.bind_eq_some_iff] at h
    obtain ⟨l, hl, y, hy, h⟩ := h
    split at h
    · rename_i hb
      simp only [Option.some.injEq] at h
      exact ⟨l, y, to3s_eq hl, by rw [to3_eq hy], hb, by rw [← h, l3s, encL]⟩
    · cases h
  · cases h
theorem addRun_eq (l : List L3) (x : L3) (hl : l.length ≤ 1000000) : addRun (l3s l) [l3V x] = some (l3s (add3 l x)) := by
  unfold addRun
  rw [l3s_some]
  have : to3 (l3V x) = some x := rfl
  simp only [this, Option.bind_some]
  rw [if_pos hl, l3s, encL]
theorem soundM : @SoundO glob0 Try.prog OM := by
  letI : Glob := glob0
  refine den_sound (fun f fc hf => ?_) (fun f xs y h => by cases h) (mutOK_nil rfl)
  unfold tabM at hf
  split at hf
  · rename_i he; subst he; cases hf; exact ⟨_, Try.func42, comp42g, by kernel_rfl⟩
  · cases hf
theorem mutOK : MutOK Try.prog := by
  intro f mu hl
  have hl : muts.lookup f = some mu := hl
  simp only [muts, List.lookup] at hl
  split at hl
  · rename_i h
    obtain rfl : f = 35 := by simpa using h
    cases hl
    refine ⟨okf35, fun es xs es' h => ?_⟩
    obtain ⟨l, x, rfl, rfl, hl, rfl⟩ := addRun_inv h
    have hfl : ∀ y ∈ flatc (l3s (add3 l x)), y.flat = true := by
      intro y hy
      obtain ⟨z, hz, hyz⟩ := List.mem_flatMap.1 hy
      obtain ⟨k, _, rfl⟩ := List.mem_map.1 hz
      simp only [l3V, V.cells, List.mem_cons, List.not_mem_nil, or_false] at hyz
      rcases hyz with rfl | rfl | rfl <;> rfl
    exact @mut_body glob0 Try.prog OM soundM 35 _ Try.func35 _ comp35 0 44 (l3s l) [l3V x] (l3s (add3 l x)) rfl rfl hfl (e35 l x hl)
  · cases hl
end Go.Proofs.Ytggmlfmhinafhaa
