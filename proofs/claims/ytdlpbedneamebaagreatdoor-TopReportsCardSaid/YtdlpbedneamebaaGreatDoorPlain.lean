/-
  Rows of roots, in numbers: all accounts lie below one root; a row's amount is that of its parts. No program in sight.
-/
import Derived.Test.YtdlpbedneamebaaGreatDoorVer3
import Derived.Test.YtdlpbedneamebaaGreatDoorSpec9
namespace Go.Proofs.YtdlpbedneamebaaGreatDoor
open Go.VM
/-! ### Roots -/
def rootsOf (c : List Gl) : List Int := (c.filter fun g => decide (g.parent = 0)).map (·.id)
theorem posU_iff {c : List Gl} {ow : Int} {l : List Int} : (posU c ow l).isSome = true ↔ ∃ r ∈ l, under c ow r = true := by
  unfold posU
  cases hq : (List.range l.length).findSome? (uAt c ow l) with
  | none =>
    simp only [Option.isSome_none, Bool.false_eq_true, false_iff]
    rintro ⟨r, hr, hu⟩
    obtain ⟨i, hi, rfl⟩ := List.getElem_of_mem hr
    have := range_find_none.1 hq i hi
    simp [uAt, hi, hu] at this
  | some i =>
    simp only [Option.isSome_some, true_iff]
    obtain ⟨k, hk, hp⟩ := List.exists_of_findSome?_eq_some hq
    have hk' : k < l.length := List.mem_range.1 hk
    simp only [uAt, List.getElem?_eq_getElem hk'] at hp
    split at hp
    · exact ⟨_, List.getElem_mem hk', ‹_›⟩
    · cases hp
variable {l : List Gl}
theorem Good.idx {x : Int} (hx : (findG l x).isSome = true) : ∃ i, ∃ hi : i < l.length, l[i].id = x := by
  cases hq : findG l x with
  | none => rw [hq] at hx; cases hx
  | some g =>
    obtain ⟨i, hi, he, hid⟩ := findG_some hq
    exact ⟨i, hi, by rw [he]; exact hid⟩
/-! ### What is accepted -/
/-! ### Owners -/
theorem dep_found {c : List Gl} {p : Plan} (h : chkG c p = 0) : (findG c p.deposits).isSome = true := by
  unfold chkG at h
  split at h
  · cases h
  · cases hq : (List.range c.length).findSome? (elemAt c) with
    | some e =>
      exfalso
      rw [hq] at h
      simp only at h
      obtain ⟨k, hk, hp⟩ := List.exists_of_findSome?_eq_some hq
      unfold elemAt at hp
      split at hp
      · cases hp
      · simp only [Option.some.injEq] at hp
        rename_i hne
        exact hne (hp.trans h)
    | none =>
      rw [hq] at h
      simp only at h
      have hu : useAt c (usesL p) 1 = none := by
        cases hz : (List.range 14).findSome? (useAt c (usesL p)) with
        | none => exact range_find_none.1 hz 1 (by omega)
        | some e =>
          exfalso
          rw [hz] at h
          simp only [Option.getD_some] at h
          obtain ⟨k, hk, hp⟩ := List.exists_of_findSome?_eq_some hz
          unfold useAt at hp
          split at hp
          · split at hp
            · cases hp
            · simp only [Option.some.injEq] at hp
              rename_i hne
              exact hne (hp.trans h)
          · cases hp
      have h1 : (usesL p)[1]? = some (p.deposits, 2) := rfl
      unfold useAt at hu
      rw [h1] at hu
      simp only at hu
      split at hu
      · rename_i h0
        unfold useE at h0
        cases hg : findG c p.deposits with
        | none => rw [hg] at h0; simp at h0
        | some g => rfl
      · cases hu
/-! ### Amounts -/
def tB (B : Int → Bool) (c : List UInt8) : List Leg → Int
  | [] => 0
  | m :: L => (if m.currency = c ∧ B m.account = true then m.amount else 0) + tB B c L
def TJ (B : Int → Bool) (sg : Int) (c : List UInt8) (bk : Int) : List Entry → Int
  | [] => 0
  | e :: L => (if bk < e.booked then 0 else sg * tB B c e.legs) + TJ B sg c bk L
theorem tB_all {B : Int → Bool} (c : List UInt8) : ∀ {L : List Leg}, (∀ x ∈ L, B x.account = true) → tB B c L = totL c L
  | [], _ => rfl
  | m :: L, h => by
    rw [tB, totL, tB_all c fun x hx => h x (List.mem_cons_of_mem _ hx)]
    simp [h m (List.mem_cons_self ..)]
theorem tB_or {B B1 B2 : Int → Bool} (c : List UInt8) (h1 : ∀ id, B id = (B1 id || B2 id)) (h2 : ∀ id, ¬ (B1 id = true ∧ B2 id = true)) : ∀ L : List Leg, tB B c L = tB B1 c L + tB B2 c L
  | [] => rfl
  | m :: L => by
    rw [tB, tB, tB, tB_or c h1 h2 L, h1]
    have := h2 m.account
    by_cases hc : m.currency = c
    · cases h3 : B1 m.account <;> cases h4 : B2 m.account <;> simp [hc]
      · omega
      · omega
      · exact absurd ⟨h3, h4⟩ this
    · simp [hc]
theorem TJ_or {B B1 B2 : Int → Bool} (sg : Int) (c : List UInt8) (bk : Int) (h1 : ∀ id, B id = (B1 id || B2 id)) (h2 : ∀ id, ¬ (B1 id = true ∧ B2 id = true)) : ∀ L : List Entry, TJ B sg c bk L = TJ B1 sg c bk L + TJ B2 sg c bk L
  | [] => rfl
  | e :: L => by
    rw [TJ, TJ, TJ, TJ_or sg c bk h1 h2 L, tB_or c h1 h2, Int.mul_add]
    split <;> omega
theorem tB_none (c : List UInt8) : ∀ L : List Leg, tB (fun _ => false) c L = 0
  | [] => rfl
  | m :: L => by rw [tB, tB_none c L]; simp
theorem TJ_none (sg : Int) (c : List UInt8) (bk : Int) : ∀ L : List Entry, TJ (fun _ => false) sg c bk L = 0
  | [] => rfl
  | e :: L => by rw [TJ, TJ_none sg c bk L, tB_none]; simp
theorem legN_eq (b : Books) (r : Row) (c : List UInt8) : ∀ (L : List Leg) (n : Int), w (L.foldl (legN b r c) n) = w (n + tB (belongsB b r) c L)
  | [], n => by rw [tB]; simp
  | m :: L, n => by
    rw [List.foldl_cons, legN_eq b r c L, tB]
    unfold legN
    split
    · simp only [w, IntKind.wrap_i64]; omega
    · congr 1; omega
theorem sumN_eq (b : Books) (r : Row) (c : List UInt8) (bk : Int) (hs : r.sign = 1 ∨ r.sign = -1) : sumN b r c bk = w (TJ (belongsB b r) r.sign c bk b.journal) := by
  have key : ∀ (L : List Entry) (n : Int), w (L.foldl (jN b r c bk) n) = w (n + TJ (belongsB b r) r.sign c bk L) := by
    intro L
    induction L with
    | nil => intro n; rw [TJ]; simp
    | cons e L ih =>
      intro n
      rw [List.foldl_cons, ih, TJ]
      unfold jN
      split
      · congr 1; omega
      · have := legN_eq b r c e.legs 0
        unfold amountN
        generalize e.legs.foldl (legN b r c) 0 = x at this
        generalize tB (belongsB b r) c e.legs = y at this
        generalize TJ (belongsB b r) r.sign c bk L = z
        simp only [w, IntKind.wrap_i64] at this ⊢
        rcases hs with hs | hs <;> rw [hs] <;> omega
  have hw : ∀ (L : List Entry) (n : Int), w n = n → w (L.foldl (jN b r c bk) n) = L.foldl (jN b r c bk) n := by
    intro L
    induction L with
    | nil => intro n h; exact h
    | cons e L ih =>
      intro n h
      rw [List.foldl_cons]
      refine ih _ ?_
      unfold jN
      split
      · exact h
      · exact wrap_i64 _ (w_rng _)
  have := key b.journal 0
  rw [Int.zero_add] at this
  rw [← this, hw _ _ (by simp [w, IntKind.wrap_i64])]; rfl
end Go.Proofs.YtdlpbedneamebaaGreatDoor
namespace Go.Proofs.YtdlpbedneamebaaGreatDoor
open Go.VM
def Leaf (c : List Gl) (x : Int) : Prop := ∀ g ∈ c, g.parent ≠ x
theorem mem_pathN {l : List Gl} {x : Int} : ∀ (n : Nat) (g : Gl), g ∈ l → x ∈ pathN l n (some g) → x = g.id ∨ ∃ g' ∈ l, g'.parent = x
  | 0, g, _, h => by simp [pathN] at h
  | n + 1, g, hg, h => by
    unfold pathN at h
    rcases List.mem_cons.1 h with h | h
    · exact .inl h
    · by_cases h0 : g.parent = 0
      · rw [if_pos h0] at h; cases h
      · rw [if_neg h0] at h
        cases hf : findG l g.parent with
        | none => rw [hf] at h; cases n <;> simp [pathN] at h
        | some p =>
          rw [hf] at h
          have hp : p ∈ l ∧ p.id = g.parent := by
            obtain ⟨i, hi, he, hid⟩ := findG_some hf
            exact ⟨he ▸ List.getElem_mem hi, hid⟩
          rcases mem_pathN n p hp.1 h with h1 | h1
          · exact .inr ⟨g, hg, by rw [h1]; exact hp.2.symm⟩
          · exact .inr h1
theorem under_leaf {l : List Gl} {ow x : Int} (hg : Good l) (hf : (findG l ow).isSome = true) (hx : Leaf l x) : under l ow x = decide (ow = x) := by
  obtain ⟨i, hi, rfl⟩ := Good.idx hf
  rw [Bool.eq_iff_iff, under_iff, decide_eq_true_iff]
  unfold path
  rw [List.mem_reverse, hg.find hi]
  constructor
  · intro h
    rcases mem_pathN 40 _ (List.getElem_mem hi) h with h | ⟨g, hgm, hp⟩
    · exact h.symm
    · exact absurd hp (hx g hgm)
  · intro h
    show x ∈ pathN l (39 + 1) (some l[i])
    unfold pathN
    rw [← h]
    exact List.mem_cons_self ..
def leafRow (g : Gl) : Row := ⟨g.name, 1, [g.id]⟩
theorem belongs_leaf {b : Books} (hg : Good b.chart) {g : Gl} (hl : Leaf b.chart g.id) {id : Int} (ho : owner b id ≠ 0) (hf : (findG b.chart (owner b id)).isSome = true) : belongsB b (leafRow g) id = decide (owner b id = g.id) := by
  unfold belongsB
  rw [Bool.eq_iff_iff, Bool.and_eq_true, posU_iff, decide_eq_true_iff, decide_eq_true_iff]
  constructor
  · rintro ⟨_, r, hr, hu⟩
    rw [List.mem_singleton.1 hr, under_leaf hg hf hl, decide_eq_true_iff] at hu
    exact hu
  · intro h
    exact ⟨ho, g.id, List.mem_singleton.2 rfl, by rw [under_leaf hg hf hl, decide_eq_true_iff]; exact h⟩
theorem dep_use {c : List Gl} {p : Plan} (h : chkG c p = 0) : useE c (p.deposits, 2) = 0 := by
  unfold chkG at h
  split at h
  · cases h
  · cases hq : (List.range c.length).findSome? (elemAt c) with
    | some e =>
      exfalso
      rw [hq] at h
      simp only at h
      obtain ⟨k, hk, hp⟩ := List.exists_of_findSome?_eq_some hq
      unfold elemAt at hp
      split at hp
      · cases hp
      · simp only [Option.some.injEq] at hp
        rename_i hne
        exact hne (hp.trans h)
    | none =>
      rw [hq] at h
      simp only at h
      have hu : useAt c (usesL p) 1 = none := by
        cases hz : (List.range 14).findSome? (useAt c (usesL p)) with
        | none => exact range_find_none.1 hz 1 (by omega)
        | some e =>
          exfalso
          rw [hz] at h
          simp only [Option.getD_some] at h
          obtain ⟨k, hk, hp⟩ := List.exists_of_findSome?_eq_some hz
          unfold useAt at hp
          split at hp
          · split at hp
            · cases hp
            · simp only [Option.some.injEq] at hp
              rename_i hne
              exact hne (hp.trans h)
          · cases hp
      have h1 : (usesL p)[1]? = some (p.deposits, 2) := rfl
      unfold useAt at hu
      rw [h1] at hu
      simp only at hu
      split at hu
      · rename_i h0
        exact h0
      · cases hu
theorem dep_leaf {c : List Gl} {p : Plan} (h : chkG c p = 0) : Leaf c p.deposits := by
  have hu := dep_use h
  unfold useE at hu
  simp only at hu
  cases hf : findG c p.deposits with
  | none => rw [hf] at hu; simp at hu
  | some g =>
    rw [hf] at hu
    simp only at hu
    split at hu
    · simp at hu
    · rename_i hp
      intro x hx e
      apply hp
      unfold parentB
      obtain ⟨k, hk, rfl⟩ := List.getElem_of_mem hx
      cases hz : posP c p.deposits with
      | some i => rfl
      | none =>
        unfold posP at hz
        have := range_find_none.1 hz k hk
        simp [pAt, hk] at this
        exact absurd e this
theorem owner_leaf {b : Books} (h : chkG b.chart b.plan = 0) {id : Int} (hk : KnownL b id) : (findG b.chart (owner b id)).isSome = true ∧ Leaf b.chart (owner b id) := by
  unfold owner
  rcases hk with ⟨h1, h2⟩ | ⟨h3, h2⟩
  · rw [if_pos h1]; exact ⟨h1, h2⟩
  · by_cases h1 : (findG b.chart id).isSome = true
    · exfalso
      obtain ⟨_, _, he⟩ := chk_elem h
      obtain ⟨i, hi, hid⟩ := Good.idx h1
      have hz := he i hi
      unfold elemE at hz
      rw [List.getElem?_eq_getElem hi] at hz
      simp only [elemG] at hz
      rw [if_pos (by omega)] at hz
      cases hz
    · rw [if_neg h1, if_pos h2]; exact ⟨dep_found h, dep_leaf h⟩
/-! ### Sums over rows -/
def sumR (b : Books) (c : List UInt8) (bk : Int) : List Gl → Int
  | [] => 0
  | g :: l => TJ (belongsB b (leafRow g)) 1 c bk b.journal + sumR b c bk l
theorem tB_congr {B B' : Int → Bool} (c : List UInt8) : ∀ {L : List Leg}, (∀ x ∈ L, B x.account = B' x.account) → tB B c L = tB B' c L
  | [], _ => rfl
  | m :: L, h => by
    rw [tB, tB, h m (List.mem_cons_self ..), tB_congr c fun x hx => h x (List.mem_cons_of_mem _ hx)]
theorem TJ_congr {B B' : Int → Bool} (sg : Int) (c : List UInt8) (bk : Int) : ∀ {L : List Entry}, (∀ e ∈ L, ∀ x ∈ e.legs, B x.account = B' x.account) → TJ B sg c bk L = TJ B' sg c bk L
  | [], _ => rfl
  | e :: L, h => by
    rw [TJ, TJ, tB_congr c (h e (List.mem_cons_self ..)), TJ_congr sg c bk fun x hx => h x (List.mem_cons_of_mem _ hx)]
def inL (b : Books) (l : List Gl) (id : Int) : Bool := l.any fun g => decide (owner b id = g.id)
theorem sumR_eq {b : Books} (hg : Good b.chart) (hc : chkG b.chart b.plan = 0) (hk : ∀ e ∈ b.journal, ∀ x ∈ e.legs, KnownL b x.account) (hpos : ∀ id, (findG b.chart (owner b id)).isSome = true → owner b id ≠ 0) (c : List UInt8) (bk : Int) :
    ∀ (l : List Gl), (∀ g ∈ l, Leaf b.chart g.id) → l.Pairwise (fun x y => x.id ≠ y.id) → sumR b c bk l = TJ (inL b l) 1 c bk b.journal
  | [], _, _ => by
    have : inL b [] = fun _ => false := rfl
    rw [this, TJ_none]; rfl
  | g :: l, hl, hp => by
    rw [List.pairwise_cons] at hp
    have ih := sumR_eq hg hc hk hpos c bk l (fun x hx => hl x (List.mem_cons_of_mem _ hx)) hp.2
    rw [sumR, ih, TJ_or (B := inL b (g :: l)) (B1 := fun id => decide (owner b id = g.id)) (B2 := inL b l) 1 c bk (fun id => rfl) (fun id ⟨h1, h2⟩ => by
      rw [decide_eq_true_iff] at h1
      obtain ⟨y, hy, he⟩ := List.any_eq_true.1 h2
      rw [decide_eq_true_iff] at he
      exact hp.1 y hy (h1.symm.trans he))]
    congr 1
    refine TJ_congr 1 c bk fun e he x hx => ?_
    obtain ⟨hf, _⟩ := owner_leaf hc (hk e he x hx)
    exact belongs_leaf hg (hl g (List.mem_cons_self ..)) (hpos _ hf) hf
def leafB (c : List Gl) (g : Gl) : Bool := c.all fun k => decide (k.parent ≠ g.id)
def leavesOf (c : List Gl) : List Gl := c.filter (leafB c)
theorem leafB_iff {c : List Gl} {g : Gl} : leafB c g = true ↔ Leaf c g.id := by
  unfold leafB Leaf
  rw [List.all_eq_true]
  exact ⟨fun h x hx => by have := h x hx; simpa using this, fun h x hx => by simpa using h x hx⟩
theorem leaves_leaf {c : List Gl} : ∀ g ∈ leavesOf c, Leaf c g.id := fun _g hg => leafB_iff.1 (List.mem_filter.1 hg).2
theorem leaves_in {b : Books} (h : chkG b.chart b.plan = 0) {id : Int} (hk : KnownL b id) : inL b (leavesOf b.chart) id = true := by
  obtain ⟨hf, hl⟩ := owner_leaf h hk
  obtain ⟨i, hi, he⟩ := Good.idx hf
  unfold inL
  rw [List.any_eq_true]
  refine ⟨b.chart[i], List.mem_filter.2 ⟨List.getElem_mem hi, leafB_iff.2 (by rw [he]; exact hl)⟩, by rw [he]; simp⟩
theorem sum_leaves {b : Books} (hs : SNB b) (c : List UInt8) (bk : Int) : w (TJ (inL b (leavesOf b.chart)) 1 c bk b.journal) = 0 := by
  have key : ∀ L : List Entry, (∀ e ∈ L, Flat e.legs ∧ ∀ x ∈ e.legs, KnownL b x.account) → w (TJ (inL b (leavesOf b.chart)) 1 c bk L) = 0 := by
    intro L
    induction L with
    | nil => intro _; simp [TJ, w, IntKind.wrap_i64]
    | cons e L ih =>
      intro hL
      have h1 := ih fun x hx => hL x (List.mem_cons_of_mem _ hx)
      obtain ⟨h2, h3⟩ := hL e (List.mem_cons_self ..)
      have h4 := tB_all (B := inL b (leavesOf b.chart)) c fun x hx => leaves_in hs.chart (h3 x hx)
      rw [TJ, h4]
      have h5 := h2 c
      generalize totL c e.legs = x at h5 ⊢
      generalize TJ (inL b (leavesOf b.chart)) 1 c bk L = y at h1 ⊢
      simp only [w, IntKind.wrap_i64] at h1 h5 ⊢
      split <;> omega
  refine key _ fun e he => ?_
  obtain ⟨i, hi, rfl⟩ := List.getElem_of_mem he
  obtain ⟨h1, _, h3⟩ := hs.ents i hi
  exact ⟨h1.2.1, h3⟩
end Go.Proofs.YtdlpbedneamebaaGreatDoor
namespace Go.Proofs.YtdlpbedneamebaaGreatDoor
open Go.VM
theorem cells_at (b : Books) (l : List Row) (bk : Int) {i : Nat} (hi : i < l.length * b.currencies.length) :
    ∃ (h1 : i / b.currencies.length < l.length) (h2 : i % b.currencies.length < b.currencies.length), (cellsOfL b l bk)[i]? = some (cellOf b l[i / b.currencies.length] bk b.currencies[i % b.currencies.length]) := by
  have hpos : 0 < b.currencies.length := by
    rcases Nat.eq_zero_or_pos b.currencies.length with h | h
    · rw [h] at hi; omega
    · exact h
  refine ⟨(Nat.div_lt_iff_lt_mul hpos).2 hi, Nat.mod_lt _ hpos, ?_⟩
  have key : ∀ (l : List Row) (i : Nat), i < l.length * b.currencies.length → (cellsOfL b l bk)[i]? = (l[i / b.currencies.length]?).bind fun r => (b.currencies[i % b.currencies.length]?).map (cellOf b r bk) := by
    intro l
    induction l with
    | nil => intro i hi; simp at hi
    | cons r l ih =>
      intro i hi
      show (rowCells b bk r ++ cellsOfL b l bk)[i]? = _
      have hrl := rowCells_len b bk r
      by_cases h : i < b.currencies.length
      · rw [List.getElem?_append_left (by omega), Nat.div_eq_of_lt h, Nat.mod_eq_of_lt h]
        simp [rowCells]
      · obtain ⟨k, rfl⟩ : ∃ k, i = k + b.currencies.length := ⟨i - b.currencies.length, by omega⟩
        rw [List.getElem?_append_right (by omega), hrl, Nat.add_sub_cancel, Nat.add_div_right _ hpos, Nat.add_mod_right, List.getElem?_cons_succ]
        refine ih k ?_
        rw [List.length_cons, Nat.succ_mul] at hi
        omega
  have h1 : i / b.currencies.length < l.length := (Nat.div_lt_iff_lt_mul hpos).2 hi
  have h2 : i % b.currencies.length < b.currencies.length := Nat.mod_lt _ hpos
  rw [key l i hi, List.getElem?_eq_getElem h1, Option.bind_some, List.getElem?_eq_getElem h2]
  rfl
def Dist (b : Books) : Prop := ∀ (k i : Nat) (hk : k < b.journal.length) (hi : i < b.journal.length), b.journal[k].id = b.journal[i].id → k = i
theorem dist_of {b : Books} (h : SNB b) : Dist b := fun k i hk hi e => by
  rw [(h.ents k hk).2.1, (h.ents i hi).2.1] at e
  omega
theorem byId_own {b : Books} (hd : Dist b) (r : Row) (c : List UInt8) {e : Entry} (he : e ∈ b.journal) : (List.range b.journal.length).findSome? (byId b r c e.id) = some (amountN b r c e) := by
  obtain ⟨i, hi, rfl⟩ := List.getElem_of_mem he
  have hne : ∀ k, (hk : k < b.journal.length) → b.journal[k].id = b.journal[i].id → k = i := fun k hk heq => hd k i hk hi heq
  cases hq : (List.range b.journal.length).findSome? (byId b r c b.journal[i].id) with
  | none =>
    have := range_find_none.1 hq i hi
    simp [byId, hi] at this
  | some n =>
    obtain ⟨k, hk, hp⟩ := List.exists_of_findSome?_eq_some hq
    have hk' : k < b.journal.length := List.mem_range.1 hk
    simp only [byId, List.getElem?_eq_getElem hk'] at hp
    split at hp
    · rename_i h1
      have := hne k hk' h1
      subst this
      exact hp.symm ▸ rfl
    · cases hp
theorem amt_own {b : Books} (hd : Dist b) {r : Row} (hc : chk b [r] = 0) (c : List UInt8) {e : Entry} (he : e ∈ b.journal) : amtId b r c e.id = amountN b r c e := by
  rw [amtId, if_pos hc, byId_own hd r c he]; rfl
def sumId (b : Books) (r : Row) (c : List UInt8) (s : Int) (id : Int) : Int := w (s + amtId b r c id)
theorem dS_mem {b : Books} {r : Row} {c : List UInt8} {bk : Int} : ∀ (L : List Entry) (acc : List Int), L.foldl (dS b r c bk) acc = acc ++ L.foldl (dS b r c bk) []
  | [], acc => by simp
  | e :: L, acc => by
    rw [List.foldl_cons, List.foldl_cons, dS_mem L (dS b r c bk acc e), dS_mem L (dS b r c bk [] e)]
    unfold dS
    split <;> simp
theorem drill_sum {b : Books} (hd : Dist b) {r : Row} (hc : chk b [r] = 0) (c : List UInt8) (bk : Int) : (∀ id ∈ drill b r c bk, amtId b r c id ≠ 0) ∧ (drill b r c bk).foldl (sumId b r c) 0 = sumN b r c bk := by
  have key : ∀ (L : List Entry), (∀ e ∈ L, e ∈ b.journal) → ∀ n : Int, w n = n → (∀ id ∈ L.foldl (dS b r c bk) [], amtId b r c id ≠ 0) ∧ (L.foldl (dS b r c bk) []).foldl (sumId b r c) n = L.foldl (jN b r c bk) n := by
    intro L
    induction L with
    | nil => intro _ n _; exact ⟨by simp, rfl⟩
    | cons e L ih =>
      intro hm n hn
      have he := amt_own hd hc c (hm e (List.mem_cons_self ..))
      have hm' : ∀ e ∈ L, e ∈ b.journal := fun x hx => hm x (List.mem_cons_of_mem _ hx)
      rw [List.foldl_cons, List.foldl_cons, dS_mem]
      by_cases h1 : e.booked ≤ bk
      · have h1' : ¬ bk < e.booked := by omega
        by_cases h2 : amountN b r c e = 0
        · have hj : jN b r c bk n e = n := by rw [jN, if_neg h1', h2, Int.add_zero, hn]
          have hs : dS b r c bk [] e = [] := by simp [dS, h2]
          rw [hj, hs, List.nil_append]
          exact ih hm' n hn
        · have hj : jN b r c bk n e = w (n + amountN b r c e) := by rw [jN, if_neg h1']
          have hs : dS b r c bk [] e = [e.id] := by simp [dS, h1, h2]
          rw [hj, hs, List.singleton_append, List.foldl_cons]
          have hw : sumId b r c n e.id = w (n + amountN b r c e) := by rw [sumId, he]
          rw [hw]
          have hww : w (w (n + amountN b r c e)) = w (n + amountN b r c e) := wrap_i64 _ (w_rng _)
          refine ⟨fun id hid => ?_, (ih hm' _ hww).2⟩
          rcases List.mem_cons.1 hid with rfl | hid
          · rw [he]; exact h2
          · exact (ih hm' _ hww).1 id hid
      · have h1' : bk < e.booked := by omega
        have hj : jN b r c bk n e = n := by rw [jN, if_pos h1']
        have hs : dS b r c bk [] e = [] := by simp [dS, h1]
        rw [hj, hs, List.nil_append]
        exact ih hm' n hn
  exact key b.journal (fun _ h => h) 0 (by simp [w, IntKind.wrap_i64])
end Go.Proofs.YtdlpbedneamebaaGreatDoor
