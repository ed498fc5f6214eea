/-
  The laws' functions, over what the others compute: the answers of Make and Drill are ones that nobody writes any more.
-/
import Derived.Test.YtmhbkofbbkogeaaGreatMake2
import Derived.Test.YtmhbkofbbkogeaaGreatSpec6
namespace Go.Proofs.YtmhbkofbbkogeaaGreat
open Go.VM
/-- What a call returned in a tuple, nobody writing it any more. -/
theorem frzT {P : Program} {f : FuncId} {xs ys : List V} (h : PF P f xs (.t ys)) : PF P f xs (.t (ys.map frz)) := by
  intro S w vs hS hG hr
  refine (h S w vs hS hG hr).mono fun r w' ⟨v, he, hb, S', hS1, hS2, hres⟩ => ⟨v, he, hb, fun b => (S b ∨ w.heap.size ≤ b) ∧ b < w'.heap.size, fun b hb' => hS2 b (hS1 b hb'), fun b hb' => hb', ?_⟩
  obtain ⟨us, rfl, hl, hh, _⟩ := hres
  refine ⟨us, rfl, by simpa using hl, fun j u x hu hx => ?_, fun i j u u' x x' g _ _ _ hx _ ho => ?_⟩
  · rw [List.getElem?_map] at hx
    cases hy : ys[j]? with
    | none => rw [hy] at hx; cases hx
    | some y =>
      rw [hy] at hx
      simp only [Option.map_some, Option.some.injEq] at hx
      subst hx
      have h1 := hh j u y hu hy
      have h2 := Res1.frz (P := P) (y := y) h1 (S' := fun b => (S b ∨ w.heap.size ≤ b) ∧ b < w'.heap.size) (fun b hb' => hS2 b hb') (fun b h1 h2 => ⟨.inr h1, h2⟩)
      cases y <;> first | exact h2 | exact h1.elim
  · rw [List.getElem?_map] at hx
    cases hy : ys[i]? with
    | none => rw [hy] at hx; cases hx
    | some y =>
      rw [hy] at hx
      simp only [Option.map_some, Option.some.injEq] at hx
      subst hx
      exfalso
      cases y <;> cases ho
noncomputable abbrev O0 : Orc := O fun _ _ => none
set_option maxRecDepth 100000 in
theorem sound0' : SoundO Tryz.prog O0 := den_sound (fun f fc h => codes_ok _ (tabOf_mem h)) (fun f xs y h => by cases h) mutOK
def frT : V → Option V
  | .t ys => some (.t (ys.map frz))
  | _ => none
def tabB (f : Nat) : Option FCode := if f = 3 then some code3 else if f = 7 then some code7 else none
def makeW (b : Books) (l : List Row) (bk : Int) : V :=
  if chk b l = 0 then (match (List.range l.length).findSome? (rowBad b l bk) with
    | none => .t [.l (encX (cellsOfL b l bk)), .i .i64 0]
    | some _ => .t [.l [], .i .i64 6]) else .t [.l [], .i .i64 (chk b l)]
/-- What Make answers. -/
def MK (xs : List V) (y : V) : Prop := ∃ (b : Books) (l : List Row) (bk : Int), Fine b ∧ Rows l ∧ l.length ≤ maxLen ∧ xs = [b.v, .l (encR l), .i .i64 bk] ∧ y = makeW b l bk
theorem MK.uniq {xs : List V} {y z : V} (h : MK xs y) (h' : MK xs z) : y = z := by
  obtain ⟨b, l, bk, _, _, _, rfl, rfl⟩ := h
  obtain ⟨b', l', bk', _, _, _, he, rfl⟩ := h'
  rw [List.cons.injEq, List.cons.injEq, List.cons.injEq] at he
  obtain ⟨h1, h2, h3, _⟩ := he
  have e1 := Books.inj _ _ h1
  have e2 := (Row.enc).1 (V.l.inj h2)
  have e3 : bk = bk' := (V.i.inj h3).2
  rw [e1, e2, e3]
open Classical in
noncomputable def makeF (xs : List V) : Option V := if h : ∃ y, MK xs y then some (Classical.choose h) else none
theorem makeF_MK {xs : List V} {y : V} (h : makeF xs = some y) : MK xs y := by
  unfold makeF at h
  split at h
  · rename_i hx
    simp only [Option.some.injEq] at h
    rw [← h]
    exact Classical.choose_spec hx
  · cases h
theorem makeF_eq {xs : List V} {y : V} (h : MK xs y) : makeF xs = some y := by
  unfold makeF
  rw [dif_pos ⟨y, h⟩]
  exact congrArg some ((Classical.choose_spec ⟨y, h⟩ : MK xs _).uniq h)
theorem makeV_frz (b : Books) (l : List Row) (bk : Int) : frT (makeV b l bk) = some (makeW b l bk) := by
  unfold makeV makeW
  by_cases h0 : chk b l = 0
  · rw [if_pos h0, if_pos h0]; cases (List.range l.length).findSome? (rowBad b l bk) <;> rfl
  · rw [if_neg h0, if_neg h0]; rfl
noncomputable def extB : Orc := fun f xs => if f = 6 then makeF xs else if f = 22 then (O0 22 xs).bind frT else O0 f xs
noncomputable def OB : Orc := den tabB extB
theorem frT_PF {P : Program} {f : FuncId} {xs : List V} {y z : V} (h : PF P f xs y) (hz : frT y = some z) : PF P f xs z := by
  unfold frT at hz
  split at hz
  · cases hz; exact frzT h
  · cases hz
theorem soundB : SoundO Tryz.prog OB := by
  refine den_sound (fun f fc h => ?_) (fun f xs y h => ?_) mutOK
  · unfold tabB at h
    split at h
    · rename_i he; subst he; cases h; exact ⟨_, Tryz.func3, comp3, okf3⟩
    split at h
    · rename_i he; subst he; cases h; exact ⟨_, Tryz.func7, comp7, okf7⟩
    · cases h
  · unfold extB at h
    split at h
    · rename_i he
      subst he
      obtain ⟨b, l, bk, h1, h2, h3, rfl, rfl⟩ := makeF_MK h
      exact ⟨okf6, frT_PF (pf6 sound0' rfl b l bk h1 h2 h3) (makeV_frz b l bk)⟩
    · split at h
      · rename_i he
        subst he
        simp only [Option.bind_eq_some_iff] at h
        obtain ⟨z, hz, hy⟩ := h
        have hs := sound0'.2 22 _ _ hz
        exact ⟨hs.1, frT_PF hs.2 hy⟩
      · exact sound0'.2 f xs y h
theorem OB_old {f : Nat} {xs : List V} {y : V} (ht : tabB f = none) (h6 : f ≠ 6) (h22 : f ≠ 22) (h : O0 f xs = some y) : OB f xs = some y := den_ext ht (by rw [extB, if_neg h6, if_neg h22]; exact h)
theorem orunB {f : Nat} {fc : FCode} (ht : tabB f = some fc) {args : List V} {y : V} (hl : args.length = fc.np) (ha : args.all V.arg = true) (h : retE fc.res (exec OB fc.body (args0 0 args)) = some y) : OB f args = some y := VM.run ht hl ha h
def drillW (b : Books) (r : Row) (c : List UInt8) (bk : Int) : V :=
  if chk b [r] = 0 then (if (findC b.currencies c).isSome = true then .t [.l (ints (drill b r c bk)), .i .i64 0] else .t [.l [], .i .i64 14]) else .t [.l [], .i .i64 (chk b [r])]
theorem b6 (b : Books) (l : List Row) (bk : Int) (h : Fine b) (hl : Rows l) (hll : l.length ≤ maxLen) : OB 6 [b.v, .l (encR l), .i .i64 bk] = some (makeW b l bk) := by
  refine den_ext rfl ?_
  rw [extB, if_pos rfl]
  exact makeF_eq ⟨b, l, bk, h, hl, hll, rfl, rfl⟩
theorem b22 (b : Books) (r : Row) (c : List UInt8) (bk : Int) (h : Fine b) (hr : r.roots.length ≤ 1000) (hn : r.name.length ≤ maxLen) : OB 22 [b.v, r.v, .s c, .i .i64 bk] = some (drillW b r c bk) := by
  refine den_ext rfl ?_
  rw [extB, if_neg (by decide), if_pos rfl, show O0 22 _ = _ from e22 (X := fun _ _ => none) b r c bk h hr hn]
  unfold drillV drillW
  by_cases h0 : chk b [r] = 0
  · rw [if_pos h0, if_pos h0]
    by_cases h1 : (findC b.currencies c).isSome = true
    · rw [if_pos h1, if_pos h1]; rfl
    · rw [if_neg h1, if_neg h1]; rfl
  · rw [if_neg h0, if_neg h0]; rfl
/-! ### The chapter's examples -/
def bk0 : Books := ⟨[⟨[69, 85, 82], 2⟩], [], [⟨1, 0, 1, [97, 115, 115, 101, 116, 115]⟩, ⟨2, 0, 2, [100, 101, 98, 116, 115]⟩, ⟨11, 1, 1, [99, 97, 115, 104]⟩, ⟨21, 2, 2, [100, 101, 112, 111, 115, 105, 116, 115]⟩], ⟨0, 21, 0, 0, 0, 0, 0, 0, 0, 0, 0, 0, 0, 0⟩, [], [⟨1000, 0, 0, 0, [97, 110, 110], [98, 97, 115, 105, 99], []⟩],
  [⟨1, 6, 6, 1, 0, 0, [100], [], [⟨11, 500, [69, 85, 82]⟩, ⟨1000, -500, [69, 85, 82]⟩], 0⟩], [], []⟩
theorem fine0 : Fine bk0 := ⟨by decide, by decide, by decide, by decide, by decide⟩
def rw1 : Row := ⟨[100, 101, 98, 116, 115], -1, [2]⟩
def rw2 : Row := ⟨[97, 108, 108], 1, [1, 2]⟩
def rw3 : Row := ⟨[120], 1, [1, 11]⟩
theorem b21 : OB 21 [] = some bk0.v := OB_old rfl (by decide) (by decide) (runN_den (k := 60) 12 21 [] _ (by kernel_rfl))
theorem rows1 : Rows [rw1] := ⟨by decide, fun r hr => by rw [List.mem_singleton.1 hr]; show 5 ≤ maxLen; unfold maxLen; omega⟩
theorem rows3 : Rows [rw3] := ⟨by decide, fun r hr => by rw [List.mem_singleton.1 hr]; show 1 ≤ maxLen; unfold maxLen; omega⟩
theorem rows2 : Rows [rw1, rw2] := ⟨by decide, fun r hr => by
  rcases List.mem_cons.1 hr with rfl | hr
  · show 5 ≤ maxLen; unfold maxLen; omega
  · rw [List.mem_singleton.1 hr]; show 3 ≤ maxLen; unfold maxLen; omega⟩
theorem m1 : makeW bk0 [rw1, rw2] 6 = .t [.l (encX [⟨[100, 101, 98, 116, 115], [69, 85, 82], 500⟩, ⟨[97, 108, 108], [69, 85, 82], 0⟩]), .i .i64 0] := by kernel_rfl
theorem m2 : makeW bk0 [rw1] 5 = .t [.l (encX [⟨[100, 101, 98, 116, 115], [69, 85, 82], 0⟩]), .i .i64 0] := by kernel_rfl
theorem m3 : drillW bk0 rw1 [69, 85, 82] 6 = .t [.l (ints [1]), .i .i64 0] := by kernel_rfl
theorem m4 : drillW bk0 rw1 [85, 83, 68] 6 = .t [.l [], .i .i64 14] := by kernel_rfl
theorem m5 : amtId bk0 rw1 [69, 85, 82] 1 = 500 := by kernel_rfl
theorem m6 : owner bk0 1000 = 21 := by kernel_rfl
theorem m7 : owner bk0 1001 = 0 := by kernel_rfl
theorem m8 : owner bk0 11 = 11 := by kernel_rfl
theorem m9 : chk bk0 [rw3] = 12 := by kernel_rfl
set_option maxHeartbeats 8000000 in
theorem live : OB 7 [] = some (.b true) := by
  refine orunB (fc := code7) rfl rfl rfl ?_
  have h1 := b6 bk0 [rw1, rw2] 6 fine0 rows2 (by show 2 ≤ maxLen; unfold maxLen; omega)
  have h2 := b6 bk0 [rw1] 5 fine0 rows1 (by show 1 ≤ maxLen; unfold maxLen; omega)
  have h3 := b22 bk0 rw1 [69, 85, 82] 6 fine0 (by decide) (by show 5 ≤ maxLen; unfold maxLen; omega)
  have h4 := b22 bk0 rw1 [85, 83, 68] 6 fine0 (by decide) (by show 5 ≤ maxLen; unfold maxLen; omega)
  have h5 := OB_old rfl (by decide) (by decide) (e25 (X := fun _ _ => none) bk0 rw1 [69, 85, 82] 1 fine0 (by decide) (by show 5 ≤ maxLen; unfold maxLen; omega))
  have h6 := OB_old rfl (by decide) (by decide) (e26 (X := fun _ _ => none) bk0 1000 fine0)
  have h7 := OB_old rfl (by decide) (by decide) (e26 (X := fun _ _ => none) bk0 1001 fine0)
  have h8 := OB_old rfl (by decide) (by decide) (e26 (X := fun _ _ => none) bk0 11 fine0)
  have h9 := OB_old rfl (by decide) (by decide) (e18 (X := fun _ _ => none) bk0 [rw3] (by decide) rows3 (by show 1 ≤ maxLen; unfold maxLen; omega))
  have h10 := OB_old rfl (by decide) (by decide) (e23 (X := fun _ _ => none) [⟨[100, 101, 98, 116, 115], [69, 85, 82], 500⟩, ⟨[97, 108, 108], [69, 85, 82], 0⟩] (by decide))
  have h11 := OB_old rfl (by decide) (by decide) (e24 (X := fun _ _ => none) [1] (by decide))
  have h34 := b21
  rw [m1] at h1
  rw [m2] at h2
  rw [m3] at h3
  rw [m4] at h4
  rw [m5] at h5
  rw [m6] at h6
  rw [m7] at h7
  rw [m8] at h8
  rw [m9] at h9
  have hv : bk0.v = .a bk0.cells := rfl
  rw [hv] at h1 h2 h3 h4 h5 h6 h7 h8 h9 h34
  have hlen : bk0.cells.length = 22 := rfl
  have hcell : (∀ y ∈ bk0.cells, y.cell = true) = True := by simp
  generalize bk0.cells = B at h1 h2 h3 h4 h5 h6 h7 h8 h9 h34 hlen hcell
  simp [rw1, rw2, rw3, Row.v, Cell.v, encL] at h1 h2 h3 h4 h5 h9 h10 h11
  simp (config := { maxSteps := 2000000 }) [code7, h34, h1, h2, h3, h4, h5, h6, h7, h8, h9, h10, h11]
end Go.Proofs.YtmhbkofbbkogeaaGreat
