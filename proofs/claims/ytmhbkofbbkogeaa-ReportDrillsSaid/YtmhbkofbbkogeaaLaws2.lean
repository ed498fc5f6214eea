/-
  The law that the amount of a cell is the sum of the amounts of the entries behind it answers yes.
-/
import Derived.Test.YtmhbkofbbkogeaaLaws
namespace Go.Proofs.Ytmhbkofbbkogeaa
open Go.VM
/-! ### In numbers -/
theorem cells_at (b : Books) (l : List Row) (bk : Int) {i : Nat} (hi : i < l.length * b.currencies.length) :
    ∃ (h1 : i / b.currencies.length < l.length) (h2 : i % b.currencies.length < b.currencies.length), (cellsOfL b l bk)[i]? = some (cellOf b l[i / b.currencies.length] bk b.currencies[i % b.currencies.length]) := by
  have hpos : 0 < b.currencies.length := by
    rcases Nat.eq_zero_or_pos b.currencies.length with h | h
    · rw [h] at hi; omega
    · exact h
  refine ⟨(Nat.div_lt_iff_lt_mul hpos).2 hi, Nat.mod_lt _ hpos, ?_⟩
  have key : ∀ (l : List Row) (i : Nat), i < l.length * b.currencies.length → (cellsOfL b l bk)[i]? = (l[i / b.currencies.length]?).bind fun r => (b.currencies[i % b.currencies.length]?).map (cellOf b r bk) := by
    intro l
    induction l with
    | nil => intro i hi; simp at hi
    | cons r l ih =>
      intro i hi
      show (rowCells b bk r ++ cellsOfL b l bk)[i]? = _
      have hrl := rowCells_len b bk r
      by_cases h : i < b.currencies.length
      · rw [List.getElem?_append_left (by omega), Nat.div_eq_of_lt h, Nat.mod_eq_of_lt h]
        simp [rowCells]
      · obtain ⟨k, rfl⟩ : ∃ k, i = k + b.currencies.length := ⟨i - b.currencies.length, by omega⟩
        rw [List.getElem?_append_right (by omega), hrl, Nat.add_sub_cancel, Nat.add_div_right _ hpos, Nat.add_mod_right, List.getElem?_cons_succ]
        refine ih k ?_
        rw [List.length_cons, Nat.succ_mul] at hi
        omega
  have h1 : i / b.currencies.length < l.length := (Nat.div_lt_iff_lt_mul hpos).2 hi
  have h2 : i % b.currencies.length < b.currencies.length := Nat.mod_lt _ hpos
  rw [key l i hi, List.getElem?_eq_getElem h1, Option.bind_some, List.getElem?_eq_getElem h2]
  rfl
/-- The amount found by Id is the entry's own. -/
theorem byId_own {b : Books} (hd : diffB b.journal = true) (r : Row) (c : List UInt8) {e : Entry} (he : e ∈ b.journal) : (List.range b.journal.length).findSome? (byId b r c e.id) = some (amountN b r c e) := by
  obtain ⟨i, hi, rfl⟩ := List.getElem_of_mem he
  have hne : ∀ k, (hk : k < b.journal.length) → b.journal[k].id = b.journal[i].id → k = i := by
    intro k hk heq
    rcases Nat.lt_trichotomy k i with h | h | h
    · exact absurd heq.symm (diffB_iff hd i k hi h)
    · exact h
    · exact absurd heq (diffB_iff hd k i hk h)
  cases hq : (List.range b.journal.length).findSome? (byId b r c b.journal[i].id) with
  | none =>
    have := range_find_none.1 hq i hi
    simp [byId, hi] at this
  | some n =>
    obtain ⟨k, hk, hp⟩ := List.exists_of_findSome?_eq_some hq
    have hk' : k < b.journal.length := List.mem_range.1 hk
    simp only [byId, List.getElem?_eq_getElem hk'] at hp
    split at hp
    · rename_i h1
      have := hne k hk' h1
      subst this
      exact hp.symm ▸ rfl
    · cases hp
theorem amt_own {b : Books} (hd : diffB b.journal = true) {r : Row} (hc : chk b [r] = 0) (c : List UInt8) {e : Entry} (he : e ∈ b.journal) : amtId b r c e.id = amountN b r c e := by
  rw [amtId, if_pos hc, byId_own hd r c he]; rfl
def sumId (b : Books) (r : Row) (c : List UInt8) (s : Int) (id : Int) : Int := w (s + amtId b r c id)
theorem dS_mem {b : Books} {r : Row} {c : List UInt8} {bk : Int} : ∀ (L : List Entry) (acc : List Int), L.foldl (dS b r c bk) acc = acc ++ L.foldl (dS b r c bk) []
  | [], acc => by simp
  | e :: L, acc => by
    rw [List.foldl_cons, List.foldl_cons, dS_mem L (dS b r c bk acc e), dS_mem L (dS b r c bk [] e)]
    unfold dS
    split <;> simp
theorem drill_sum {b : Books} (hd : diffB b.journal = true) {r : Row} (hc : chk b [r] = 0) (c : List UInt8) (bk : Int) : (∀ id ∈ drill b r c bk, amtId b r c id ≠ 0) ∧ (drill b r c bk).foldl (sumId b r c) 0 = sumN b r c bk := by
  have key : ∀ (L : List Entry), (∀ e ∈ L, e ∈ b.journal) → ∀ n : Int, w n = n → (∀ id ∈ L.foldl (dS b r c bk) [], amtId b r c id ≠ 0) ∧ (L.foldl (dS b r c bk) []).foldl (sumId b r c) n = L.foldl (jN b r c bk) n := by
    intro L
    induction L with
    | nil => intro _ n _; exact ⟨by simp, rfl⟩
    | cons e L ih =>
      intro hm n hn
      have he := amt_own hd hc c (hm e (List.mem_cons_self ..))
      have hm' : ∀ e ∈ L, e ∈ b.journal := fun x hx => hm x (List.mem_cons_of_mem _ hx)
      rw [List.foldl_cons, List.foldl_cons, dS_mem]
      by_cases h1 : e.booked ≤ bk
      · have h1' : ¬ bk < e.booked := by omega
        by_cases h2 : amountN b r c e = 0
        · have hj : jN b r c bk n e = n := by rw [jN, if_neg h1', h2, Int.add_zero, hn]
          have hs : dS b r c bk [] e = [] := by simp [dS, h2]
          rw [hj, hs, List.nil_append]
          exact ih hm' n hn
        · have hj : jN b r c bk n e = w (n + amountN b r c e) := by rw [jN, if_neg h1']
          have hs : dS b r c bk [] e = [e.id] := by simp [dS, h1, h2]
          rw [hj, hs, List.singleton_append, List.foldl_cons]
          have hw : sumId b r c n e.id = w (n + amountN b r c e) := by rw [sumId, he]
          rw [hw]
          have hww : w (w (n + amountN b r c e)) = w (n + amountN b r c e) := wrap_i64 _ (w_rng _)
          refine ⟨fun id hid => ?_, (ih hm' _ hww).2⟩
          rcases List.mem_cons.1 hid with rfl | hid
          · rw [he]; exact h2
          · exact (ih hm' _ hww).1 id hid
      · have h1' : bk < e.booked := by omega
        have hj : jN b r c bk n e = n := by rw [jN, if_pos h1']
        have hs : dS b r c bk [] e = [] := by simp [dS, h1]
        rw [hj, hs, List.nil_append]
        exact ih hm' n hn
  exact key b.journal (fun _ h => h) 0 (by simp [w, IntKind.wrap_i64])
theorem findC_some {l : List Currency} {i : Nat} (hi : i < l.length) : (findC l l[i].code).isSome = true := by
  cases hq : findC l l[i].code with
  | some x => rfl
  | none =>
    have := range_find_none.1 hq i hi
    simp [cAt, hi] at this
/-! ### The loops -/
section
variable (b : Books) (l : List Row) (bk : Int) (xs : List Cell) (i : Nat)
abbrev E6 : Env := [(1, .l (encR l)), (2, .i .i64 bk), (3, .bx b.cells), (7, .l (encX xs)), (9, .i .i64 i)]
theorem l6i (r : Row) (ids : List Int) (hi : i < xs.length) (h : Fine b) (hr : r.roots.length ≤ 1000) (hn : r.name.length ≤ maxLen) (hids : ids.length ≤ 1000) (hnz : ∀ id ∈ ids, amtId b r xs[i].currency id ≠ 0) :
    loopK OB [1, 2, 3, 7, 9, 10, 11, 13, 14] body6_1 [(1, .l (encR l)), (2, .i .i64 bk), (3, .bx b.cells), (7, .l (encX xs)), (9, .i .i64 i), (10, .bx r.cells), (11, .l (ints ids)), (13, .i .i64 0), (14, .i .i64 0)] =
      some (.e 2, [(1, .l (encR l)), (2, .i .i64 bk), (3, .bx b.cells), (7, .l (encX xs)), (9, .i .i64 i), (13, .i .i64 (ids.foldl (sumId b r xs[i].currency) 0))]) := by
  have := loopK_run (o := OB) (kin := [1, 2, 3, 7, 9, 10, 11, 13, 14]) (c := body6_1) (fun k => [(1, .l (encR l)), (2, .i .i64 bk), (3, .bx b.cells), (7, .l (encX xs)), (9, .i .i64 i), (10, .bx r.cells), (11, .l (ints ids)), (13, .i .i64 ((ids.take k).foldl (sumId b r xs[i].currency) 0)), (14, .i .i64 k)]) ids.length (.e 2, [(1, .l (encR l)), (2, .i .i64 bk), (3, .bx b.cells), (7, .l (encX xs)), (9, .i .i64 i), (13, .i .i64 (ids.foldl (sumId b r xs[i].currency) 0))]) (by simp) (fun k hk => by
    have hw := wrap_i64 (k + 1) (by omega)
    have h20 := OB_old rfl (by decide) (by decide) (e20 (X := X0) b r xs[i].currency ids[k] h hr hn)
    have h0 := hnz _ (List.getElem_mem hk)
    rw [fold_take _ _ _ hk]
    generalize (ids.take k).foldl (sumId b r xs[i].currency) 0 = s
    unfold sumId
    generalize amtId b r xs[i].currency ids[k] = n at h20 h0 ⊢
    simp [body6_1, hi, hk, hw, h20, h0]) (by simp [body6_1]) (by simp)
  simpa using this
end
theorem cell_eq (b : Books) (r : Row) (bk : Int) (x : Currency) : (cellOf b r bk x).row = r.name ∧ (cellOf b r bk x).currency = x.code ∧ (cellOf b r bk x).amount = sumN b r x.code bk := ⟨rfl, rfl, rfl⟩
theorem quo_nat (i n : Nat) (hi : i < 1000000) : IntKind.i64.wrap ((i : Int) / (n : Int)) = ((i / n : Nat) : Int) := by
  have h1 : (i : Int) / (n : Int) = ((i / n : Nat) : Int) := rfl
  rw [h1]
  have : i / n ≤ i := Nat.div_le_self ..
  generalize i / n = q at this
  exact wrap_i64 _ (by omega)
set_option maxHeartbeats 16000000 in
theorem l6 (b : Books) (l : List Row) (bk : Int) (h : Fine b) (hr : Rows l) (hc : chk b l = 0) (hd : diffB b.journal = true) (h10 : l.length ≤ 10) :
    loopK OB [1, 2, 3, 7, 9] body6_2 (E6 b l bk (cellsOfL b l bk) 0) = some (.e 0, []) := by
  have hlen := cellsOfL_len b bk l
  have hcl := h.curs
  have hmul : l.length * b.currencies.length ≤ 10 * 1000 := Nat.mul_le_mul h10 hcl
  generalize hX : cellsOfL b l bk = xs at hlen
  have := loopK_run (o := OB) (kin := [1, 2, 3, 7, 9]) (c := body6_2) (fun i => E6 b l bk xs i) xs.length (.e 0, []) (by simp) (fun i hi => by
    have hw := wrap_i64 (i + 1) (by omega)
    obtain ⟨h1, h2, h3⟩ := cells_at b l bk (i := i) (by omega)
    have hq := quo_nat i b.currencies.length (by omega)
    have hne : ¬ b.currencies.length = 0 := by
      intro h0; rw [h0, Nat.mul_zero] at hlen; omega
    rw [hX, List.getElem?_eq_getElem hi, Option.some.injEq] at h3
    generalize i / b.currencies.length = j at h1 h3 hq
    have hm : l[j] ∈ l := List.getElem_mem h1
    have hc1 := chk_one hc hm
    have hrt := hr.roots _ hm
    have hnm := hr.name _ hm
    have h17 := b17 b l[j] xs[i].currency bk h hrt hnm
    have hfc := findC_some h2
    have hcur : xs[i].currency = (b.currencies[i % b.currencies.length]).code := by rw [h3]; rfl
    have hrow : xs[i].row = l[j].name := by rw [h3]; rfl
    have ham : xs[i].amount = sumN b l[j] xs[i].currency bk := by rw [h3]; rfl
    have hdr : drillW b l[j] xs[i].currency bk = .t [.l (ints (drill b l[j] xs[i].currency bk)), .i .i64 0] := by
      rw [drillW, if_pos hc1, if_pos (by rw [hcur]; exact hfc)]
    rw [hdr] at h17
    have hds := drill_sum hd hc1 xs[i].currency bk
    have hdl := drill_len b l[j] xs[i].currency bk
    have hjl := h.jour
    have hin := l6i b l bk xs i l[j] (drill b l[j] xs[i].currency bk) hi h hrt hnm (by omega) hds.1
    rw [hds.2, ← ham] at hin
    generalize drill b l[j] xs[i].currency bk = ids at h17 hin

    clear h3 hds hdr ham hfc hcur
    have hb0 : ((b.currencies.length : Nat) : Int) ≠ 0 := by omega
    have hv : b.v = .a b.cells := rfl
    have hld : ∀ es : List V, (b.cells[0]?) = some (.l (encC b.currencies)) := fun _ => rfl
    simp (config := { maxSteps := 4000000 }) [body6_2, exec_loopK, hi, hw, h1, hq, hne, h17, hrow, hin]) (by simp [body6_2]) (by simp)
  exact this
set_option maxHeartbeats 8000000 in
theorem e6 (b : Books) (l : List Row) (bk : Int) (hf : okBk b) (hl : l.length ≤ maxLen) : OB 6 [b.v, .l (encR l), .i .i64 bk] = some (.b true) := by
  refine orunB (fc := code6) rfl rfl rfl ?_
  obtain ⟨t7, h7, f7⟩ := b7 b hf
  cases t7 with
  | true => simp [code6, h7]
  | false =>
    obtain ⟨t8, h8, f8⟩ := b8 l
    cases t8 with
    | true => simp [code6, h7, h8]
    | false =>
      obtain ⟨hb, hcu, hjo⟩ := f7 rfl
      obtain ⟨hr, h100⟩ := f8 rfl
      have h13 := live
      by_cases g1 : 10 < l.length
      · have g1' : (10 : Int) < (l.length : Int) := by omega
        simp [code6, h7, h8, g1']
      · have g1' : ¬ (10 : Int) < (l.length : Int) := by omega
        have h22 := OB_old rfl (by decide) (by decide) (e22 (X := X0) b.journal (by omega))
        cases hd : diffB b.journal with
        | false => rw [hd] at h22; simp [code6, h7, h8, g1', h22]
        | true =>
          rw [hd] at h22
          have h14 := b14 b l bk hb hr hl
          have hlen := cellsOfL_len b bk l
          have hmul : l.length * b.currencies.length ≤ 10 * 20 := Nat.mul_le_mul (by omega) hcu
          have hw := wrap_i64 ((l.length : Int) * (b.currencies.length : Int)) (by
            have : ((l.length * b.currencies.length : Nat) : Int) = (l.length : Int) * (b.currencies.length : Int) := by simp
            omega)
          have hlen' : ((cellsOfL b l bk).length : Int) = (l.length : Int) * (b.currencies.length : Int) := by rw [hlen]; simp
          have other : ∀ e : Int, e ≠ 0 → OB 14 [b.v, .l (encR l), .i .i64 bk] = some (.t [.l [], .i .i64 e]) → retE code6.res (exec OB code6.body (args0 0 [b.v, .l (encR l), .i .i64 bk])) = some (.b true) := by
            intro e he q14
            simp [code6, h7, h8, g1', h22, q14, he, h13]
          unfold makeW at h14
          by_cases h0 : chk b l = 0
          · rw [if_pos h0] at h14
            have hl6 := l6 b l bk hb hr h0 hd (by omega)
            simp only [E6, Int.natCast_zero] at hl6
            cases hq : (List.range l.length).findSome? (rowBad b l bk) with
            | none =>
              rw [hq] at h14
              generalize cellsOfL b l bk = xs at h14 hl6 hlen'
              simp [code6, exec_loopK, h7, h8, g1', h22, h14, hlen', hw, hl6, h13]
            | some u =>
              rw [hq] at h14
              exact other 6 (by decide) h14
          · rw [if_neg h0] at h14
            exact other _ h0 h14
end Go.Proofs.Ytmhbkofbbkogeaa
