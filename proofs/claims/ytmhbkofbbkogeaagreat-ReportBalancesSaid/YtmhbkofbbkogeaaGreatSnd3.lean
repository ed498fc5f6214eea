/-
  Sound books, and what they say.
-/
import Derived.Test.YtmhbkofbbkogeaaGreatSnd2
import Derived.Test.YtmhbkofbbkogeaaGreatTree8
import Derived.Test.YtmhbkofbbkogeaaGreatSpec9
namespace Go.Proofs.YtmhbkofbbkogeaaGreat
open Go.VM
variable {X : Orc}
/-- What sound books say. -/
structure SND (b : Books) : Prop where
  fine : Fine b
  curs : b.currencies.length ≤ 20
  jour : b.journal.length ≤ 150
  chart : chkG b.chart b.plan = 0
  ents : ∀ e ∈ b.journal, EntOK b e
theorem l4a (b : Books) (hl : b.calendars.length ≤ 1000) (hc : ∀ c ∈ b.calendars, c.weekend.length ≤ 1000 ∧ c.holidays.length ≤ 1000) : ∃ r, loopK (O X) [1, 3] body4_1 [(1, .bx b.cells), (3, .i .i64 0)] = some r ∧ (r = (.r, [(2, .b false)]) ∨ r = (.e 0, [(1, .bx b.cells)])) := by
  have := loopK_tot (o := O X) (kin := [1, 3]) (c := body4_1) (fun i => [(1, .bx b.cells), (3, .i .i64 (i : Int))]) b.calendars.length (fun r => r = (.r, [(2, .b false)]) ∨ r = (.e 0, [(1, .bx b.cells)])) (by simp) (fun i hi => by
    have hw := wrap_i64 (i + 1) (by omega)
    have hx := hc _ (List.getElem_mem hi)
    obtain ⟨n, hn⟩ := t12 (X := X) b.calendars[i] hx.1 hx.2
    by_cases hn0 : n = 0
    · subst hn0
      by_cases h0 : i = 0
      · subst h0
        simp [-Prod.exists, body4_1, hi, w1, hn]
      · obtain ⟨p, hp⟩ : ∃ p, p + 1 = i := ⟨i - 1, by omega⟩
        have hpl : p < b.calendars.length := by omega
        have h0' : 0 < i := by omega
        have hw1 : IntKind.i64.wrap ((i : Int) - 1) = (p : Int) := by rw [wrap_i64 _ (by omega)]; omega
        by_cases hbk : Op.bytesLess b.calendars[i].name b.calendars[p].name = true
        · simp [-Prod.exists, body4_1, hi, hn, h0', hw1, hpl, hbk]
        · by_cases hbe : b.calendars[i].name = b.calendars[p].name
          · simp only [Calendar.v, hbe] at hn
            simp [-Prod.exists, body4_1, hi, hn, h0', hw1, hpl, hbe]
          · simp [-Prod.exists, body4_1, hi, hw, hn, h0', hw1, hpl, hbk, hbe]
    · simp [-Prod.exists, body4_1, hi, hn, hn0]) (by simp [body4_1])
  simpa using this
theorem l4b (b : Books) (h : Szs b) (hcl : b.calendars.length ≤ 1000) (hf : ∀ p ∈ b.products, (∀ f ∈ p.fees, f.okX) ∧ ∀ f ∈ p.rules, f.okX) : ∃ r, loopK (O X) [1, 4] body4_2 [(1, .bx b.cells), (4, .i .i64 0)] = some r ∧ (r = (.r, [(2, .b false)]) ∨ r = (.e 2, [(1, .bx b.cells)])) := by
  have hpl := h.prods
  have := loopK_tot (o := O X) (kin := [1, 4]) (c := body4_2) (fun i => [(1, .bx b.cells), (4, .i .i64 (i : Int))]) b.products.length (fun r => r = (.r, [(2, .b false)]) ∨ r = (.e 2, [(1, .bx b.cells)])) (by simp) (fun i hi => by
    have hw := wrap_i64 (i + 1) (by omega)
    have hx := hf _ (List.getElem_mem hi)
    obtain ⟨n, hn⟩ := t13 (X := X) b.products[i] b.currencies b.calendars h.curs hcl hx.1 hx.2
    by_cases hn0 : n = 0 <;> simp [-Prod.exists, body4_2, hi, hw, hn, hn0]) (by simp [body4_2])
  simpa using this
set_option maxHeartbeats 8000000 in
theorem t4 (b : Books) (hf : ∀ p ∈ b.products, (∀ f ∈ p.fees, f.okX) ∧ ∀ f ∈ p.rules, f.okX) (hg : ∀ g ∈ b.chart, g.name.length ≤ maxLen) (hgl : b.chart.length ≤ maxLen) : ∃ t : Bool, O X 4 [b.v] = some (.b t) ∧ (t = true → SND b) := by
  have : ∃ y, O X 4 [b.v] = some y ∧ BP (SND b) y := by
    refine orunE (fc := code4) rfl rfl rfl ?_
    obtain ⟨t8, h8, f8⟩ := e8 (X := X) b hf
    cases t8 with
    | true => simp [code4, h8]
    | false =>
    obtain ⟨hfine, hcu, hjo, hB, hcal⟩ := f8 rfl
    obtain ⟨n9, h9⟩ := t9 (X := X) b.currencies
    by_cases c9 : n9 = 0
    rotate_left
    · simp [code4, h8, h9, c9]
    subst c9
    have h10 := e10 (X := X) b.chart b.plan hg hgl
    by_cases c10 : chkG b.chart b.plan = 0
    rotate_left
    · simp [code4, h8, h9, h10, c10]
    rw [c10] at h10
    obtain ⟨n11, h11⟩ := t11 (X := X) b.products
    by_cases c11 : n11 = 0
    rotate_left
    · simp [code4, h8, h9, h10, h11, c11]
    subst c11
    have hS : Szs b := ⟨by omega, hfine.chart, hfine.accs, by have := hB.prods; omega, by omega⟩
    have hcl := hB.cals
    obtain ⟨r1, hl1, hr1⟩ := l4a (X := X) b (by omega) hcal
    obtain ⟨r2, hl2, hr2⟩ := l4b (X := X) b hS (by omega) hf
    rcases hr1 with rfl | rfl
    · simp [code4, exec_loopK, h8, h9, h10, h11, hl1]
    rcases hr2 with rfl | rfl
    · simp [code4, exec_loopK, h8, h9, h10, h11, hl1, hl2]
    obtain ⟨n14, h14⟩ := t14 (X := X) b hS.prods
    by_cases c14 : n14 = 0
    rotate_left
    · simp [code4, exec_loopK, h8, h9, h10, h11, hl1, hl2, h14, c14]
    subst c14
    obtain ⟨t, h15, f15⟩ := t15 (X := X) b hS hfine.legs
    cases t with
    | false => simp [code4, exec_loopK, h8, h9, h10, h11, hl1, hl2, h14, h15]
    | true =>
    have hsnd : SND b := ⟨hfine, hcu, hjo, c10, f15 rfl⟩
    obtain ⟨n16, h16⟩ := t16 (X := X) b.holds
    obtain ⟨n17, h17⟩ := t17 (X := X) b.blocks
    by_cases c16 : n16 = 0 <;> simp [code4, exec_loopK, h8, h9, h10, h11, hl1, hl2, h14, h15, h16, h17, c16, hsnd]
  obtain ⟨y, h, n, rfl, hp⟩ := this
  exact ⟨n, h, hp⟩
end Go.Proofs.YtmhbkofbbkogeaaGreat
namespace Go.Proofs.YtmhbkofbbkogeaaGreat
open Go.VM
/-! ### Roots -/
def rootsOf (c : List Gl) : List Int := (c.filter fun g => decide (g.parent = 0)).map (·.id)
def allRow (c : List Gl) : Row := ⟨[97, 108, 108], 1, rootsOf c⟩
theorem rootsOf_take (c : List Gl) {k : Nat} (hk : k < c.length) : rootsOf (c.take (k + 1)) = rootsOf (c.take k) ++ (if c[k].parent = 0 then [c[k].id] else []) := by
  unfold rootsOf
  rw [List.take_succ_eq_append_getElem hk, List.filter_append, List.map_append]
  congr 1
  by_cases h : c[k].parent = 0 <;> simp [h]
theorem rootsOf_len (c : List Gl) : (rootsOf c).length ≤ c.length := by
  unfold rootsOf
  rw [List.length_map]
  exact List.length_filter_le ..
theorem rootsOf_mem {c : List Gl} {x : Int} : x ∈ rootsOf c ↔ ∃ g ∈ c, g.parent = 0 ∧ g.id = x := by
  unfold rootsOf
  simp only [List.mem_map, List.mem_filter, decide_eq_true_eq]
  constructor
  · rintro ⟨g, ⟨h1, h2⟩, h3⟩; exact ⟨g, h1, h2, h3⟩
  · rintro ⟨g, h1, h2, h3⟩; exact ⟨g, ⟨h1, h2⟩, h3⟩
theorem posU_iff {c : List Gl} {ow : Int} {l : List Int} : (posU c ow l).isSome = true ↔ ∃ r ∈ l, under c ow r = true := by
  unfold posU
  cases hq : (List.range l.length).findSome? (uAt c ow l) with
  | none =>
    simp only [Option.isSome_none, Bool.false_eq_true, false_iff]
    rintro ⟨r, hr, hu⟩
    obtain ⟨i, hi, rfl⟩ := List.getElem_of_mem hr
    have := range_find_none.1 hq i hi
    simp [uAt, hi, hu] at this
  | some i =>
    simp only [Option.isSome_some, true_iff]
    obtain ⟨k, hk, hp⟩ := List.exists_of_findSome?_eq_some hq
    have hk' : k < l.length := List.mem_range.1 hk
    simp only [uAt, List.getElem?_eq_getElem hk'] at hp
    split at hp
    · exact ⟨_, List.getElem_mem hk', ‹_›⟩
    · cases hp
variable {l : List Gl}
theorem Good.idx {x : Int} (hx : (findG l x).isSome = true) : ∃ i, ∃ hi : i < l.length, l[i].id = x := by
  cases hq : findG l x with
  | none => rw [hq] at hx; cases hx
  | some g =>
    obtain ⟨i, hi, he, hid⟩ := findG_some hq
    exact ⟨i, hi, by rw [he]; exact hid⟩
theorem Good.stable (h : Good l) : ∀ (i n m : Nat) (hi : i < l.length), i < n → i < m → pathN l n (some l[i]) = pathN l m (some l[i]) := by
  intro i
  induction i using Nat.strongRecOn with
  | _ i ih =>
    intro n m hi hn hm
    obtain ⟨n, rfl⟩ : ∃ k, n = k + 1 := ⟨n - 1, by omega⟩
    obtain ⟨m, rfl⟩ : ∃ k, m = k + 1 := ⟨m - 1, by omega⟩
    rw [pathN, pathN]
    rcases h.par i hi with h0 | ⟨j, hj, hp⟩
    · rw [if_pos h0, if_pos h0]
    · have hjl : j < l.length := by omega
      have hpos := h.pos j hjl
      have hne : ¬ l[i].parent = 0 := by omega
      rw [if_neg hne, if_neg hne, ← hp, h.find hjl, ih j hj n m hjl (by omega) (by omega)]
theorem Good.mem_path (h : Good l) {i n : Nat} (hi : i < l.length) (hn : i < n) (x : Int) : x ∈ path l l[i].id ↔ x ∈ pathN l n (some l[i]) := by
  have := h.len
  unfold path
  rw [List.mem_reverse, h.find hi, h.stable i 40 n hi (by omega) hn]
theorem Good.chain (h : Good l) {x y : Int} : ∀ (i n : Nat) (hi : i < l.length), i < n → x ∈ pathN l n (some l[i]) → y ∈ pathN l n (some l[i]) → y ∈ path l x ∨ x ∈ path l y := by
  intro i
  induction i using Nat.strongRecOn with
  | _ i ih =>
    intro n hi hn hx hy
    have hx0 := (h.mem_path hi hn x).2 hx
    have hy0 := (h.mem_path hi hn y).2 hy
    by_cases ex : x = l[i].id
    · subst ex; exact .inl hy0
    by_cases ey : y = l[i].id
    · subst ey; exact .inr hx0
    obtain ⟨n, rfl⟩ : ∃ k, n = k + 1 := ⟨n - 1, by omega⟩
    rw [pathN] at hx hy
    rcases h.par i hi with h0 | ⟨j, hj, hp⟩
    · rw [if_pos h0, List.mem_singleton] at hx
      exact absurd hx ex
    · have hjl : j < l.length := by omega
      have hpos := h.pos j hjl
      have hne : ¬ l[i].parent = 0 := by omega
      rw [if_neg hne, ← hp, h.find hjl] at hx hy
      exact ih j hj n hjl (by omega) ((List.mem_cons.1 hx).resolve_left ex) ((List.mem_cons.1 hy).resolve_left ey)
theorem Good.under_chain (h : Good l) {ow x y : Int} (ho : (findG l ow).isSome = true) (hx : under l ow x = true) (hy : under l ow y = true) : under l x y = true ∨ under l y x = true := by
  obtain ⟨i, hi, rfl⟩ := Good.idx ho
  rw [under_iff, h.mem_path hi (Nat.lt_succ_self i)] at hx hy
  rw [under_iff, under_iff]
  exact h.chain i (i + 1) hi (Nat.lt_succ_self i) hx hy
theorem Good.root_path (h : Good l) {i : Nat} (hi : i < l.length) (h0 : l[i].parent = 0) (x : Int) : under l l[i].id x = true ↔ x = l[i].id := by
  rw [under_iff, h.mem_path hi (Nat.lt_succ_self i), pathN, if_pos h0, List.mem_singleton]
theorem Good.rootsAsc (h : Good l) : (rootsOf l).Pairwise (· < ·) := by
  unfold rootsOf
  rw [List.pairwise_map]
  refine List.Pairwise.filter _ ?_
  rw [List.pairwise_iff_getElem]
  intro i j hi hj hij
  exact h.asc i j hi hj hij
/-! ### What is accepted -/
theorem rootE_zero {c : List Gl} {L : List Int} : rootE c L = 0 ↔ ∀ i (hi : i < L.length), (findG c L[i]).isSome = true ∧ ∀ k (hk : k < i), under c L[i] (L[k]'(by omega)) = false ∧ under c (L[k]'(by omega)) L[i] = false := by
  have dup : ∀ i (hi : i < L.length), ((List.range i).findSome? (dupAt c L L[i])) = none ↔ ∀ k (hk : k < i), under c L[i] (L[k]'(by omega)) = false ∧ under c (L[k]'(by omega)) L[i] = false := by
    intro i hi
    rw [range_find_none]
    refine forall_congr' fun k => forall_congr' fun hk => ?_
    have hkl : k < L.length := by omega
    simp only [dupAt, List.getElem?_eq_getElem hkl]
    cases under c L[i] L[k] <;> cases under c L[k] L[i] <;> simp
  have at' : ∀ i (hi : i < L.length), rootAt c L i = none ↔ (findG c L[i]).isSome = true ∧ ∀ k (hk : k < i), under c L[i] (L[k]'(by omega)) = false ∧ under c (L[k]'(by omega)) L[i] = false := by
    intro i hi
    rw [← dup i hi]
    simp only [rootAt, List.getElem?_eq_getElem hi]
    cases findG c L[i] <;> cases (List.range i).findSome? (dupAt c L L[i]) <;> simp
  unfold rootE
  constructor
  · intro h i hi
    refine (at' i hi).1 ?_
    cases hq : (List.range L.length).findSome? (rootAt c L) with
    | none => exact range_find_none.1 hq i hi
    | some e =>
      exfalso
      rw [hq] at h
      simp only [Option.getD_some] at h
      subst h
      obtain ⟨k, hk, hp⟩ := List.exists_of_findSome?_eq_some hq
      have hk' : k < L.length := List.mem_range.1 hk
      simp only [rootAt, List.getElem?_eq_getElem hk'] at hp
      split at hp
      · cases hp
      · split at hp <;> cases hp
  · intro h
    rw [range_find_none.2 fun i hi => (at' i hi).2 (h i hi)]; rfl
theorem Good.rootE_all (h : Good l) : rootE l (rootsOf l) = 0 := by
  rw [rootE_zero]
  intro i hi
  have hm := List.getElem_mem hi
  obtain ⟨g, hg, h0, hid⟩ := rootsOf_mem.1 hm
  obtain ⟨j, hj, rfl⟩ := List.getElem_of_mem hg
  rw [← hid]
  refine ⟨by rw [h.find hj]; rfl, fun k hk => ?_⟩
  have hkl : k < (rootsOf l).length := by omega
  have hlt := List.pairwise_iff_getElem.1 h.rootsAsc k i hkl hi hk
  obtain ⟨g', hg', h0', hid'⟩ := rootsOf_mem.1 (List.getElem_mem hkl)
  obtain ⟨j', hj', rfl⟩ := List.getElem_of_mem hg'
  constructor
  · cases hu : under l l[j].id (rootsOf l)[k] with
    | false => rfl
    | true =>
      have := (h.root_path hj h0 _).1 hu
      omega
  · cases hu : under l (rootsOf l)[k] l[j].id with
    | false => rfl
    | true =>
      rw [← hid'] at hu
      have := (h.root_path hj' h0' _).1 hu
      omega
theorem chk_one_iff {b : Books} {r : Row} : chk b [r] = 0 ↔ nameOk r.name = true ∧ (r.sign = 1 ∨ r.sign = -1) ∧ rootE b.chart r.roots = 0 := by
  unfold chk
  have h1 : ¬ (([r] : List Row).length < 1 ∨ 64 < ([r] : List Row).length) := by simp
  rw [if_neg h1]
  have hr : (List.range ([r] : List Row).length).findSome? (rowAt b [r]) = rowAt b [r] 0 := by
    simp [List.range_succ]
  rw [hr]
  simp only [rowAt, List.getElem?_cons_zero]
  cases nameOk r.name with
  | false => simp
  | true =>
    by_cases hs : r.sign = 1 ∨ r.sign = -1
    · have hs' : ¬ (r.sign ≠ 1 ∧ r.sign ≠ -1) := by omega
      by_cases h0 : rootE b.chart r.roots = 0
      · simp [hs, hs', h0]
      · simp [hs', h0]
    · have hs' : r.sign ≠ 1 ∧ r.sign ≠ -1 := by omega
      simp [hs']
/-! ### Owners -/
theorem dep_found {c : List Gl} {p : Plan} (h : chkG c p = 0) : (findG c p.deposits).isSome = true := by
  unfold chkG at h
  split at h
  · cases h
  · cases hq : (List.range c.length).findSome? (elemAt c) with
    | some e =>
      exfalso
      rw [hq] at h
      simp only at h
      obtain ⟨k, hk, hp⟩ := List.exists_of_findSome?_eq_some hq
      unfold elemAt at hp
      split at hp
      · cases hp
      · simp only [Option.some.injEq] at hp
        rename_i hne
        exact hne (hp.trans h)
    | none =>
      rw [hq] at h
      simp only at h
      have hu : useAt c (usesL p) 1 = none := by
        cases hz : (List.range 14).findSome? (useAt c (usesL p)) with
        | none => exact range_find_none.1 hz 1 (by omega)
        | some e =>
          exfalso
          rw [hz] at h
          simp only [Option.getD_some] at h
          obtain ⟨k, hk, hp⟩ := List.exists_of_findSome?_eq_some hz
          unfold useAt at hp
          split at hp
          · split at hp
            · cases hp
            · simp only [Option.some.injEq] at hp
              rename_i hne
              exact hne (hp.trans h)
          · cases hp
      have h1 : (usesL p)[1]? = some (p.deposits, 2) := rfl
      unfold useAt at hu
      rw [h1] at hu
      simp only at hu
      split at hu
      · rename_i h0
        unfold useE at h0
        cases hg : findG c p.deposits with
        | none => rw [hg] at h0; simp at h0
        | some g => rfl
      · cases hu
theorem owner_found {b : Books} (hd : (findG b.chart b.plan.deposits).isSome = true) {id : Int} (h : owner b id ≠ 0) : (findG b.chart (owner b id)).isSome = true := by
  unfold owner at h ⊢
  by_cases h1 : (findG b.chart id).isSome = true
  · rw [if_pos h1]; exact h1
  · rw [if_neg h1] at h ⊢
    by_cases h2 : (posA b.accounts id).isSome = true
    · rw [if_pos h2]; exact hd
    · rw [if_neg h2] at h; exact absurd rfl h
theorem known_found {b : Books} (hd : (findG b.chart b.plan.deposits).isSome = true) {id : Int} (h : Known b id) : (findG b.chart (owner b id)).isSome = true := by
  unfold owner
  by_cases h1 : (findG b.chart id).isSome = true
  · rw [if_pos h1]; exact h1
  · rw [if_neg h1, if_pos (h.resolve_left h1)]; exact hd
theorem belongs_all {b : Books} (h : Good b.chart) (hd : (findG b.chart b.plan.deposits).isSome = true) {id : Int} (hk : Known b id) : belongsB b (allRow b.chart) id = true := by
  have hf := known_found hd hk
  obtain ⟨i, hi, he⟩ := Good.idx hf
  have hp := h.pos i hi
  obtain ⟨k0, hk0, h0, hu, _⟩ := h.one hi
  unfold belongsB
  rw [Bool.and_eq_true]
  refine ⟨by rw [← he]; simp; omega, posU_iff.2 ⟨b.chart[k0].id, rootsOf_mem.2 ⟨_, List.getElem_mem hk0, h0, rfl⟩, by rw [← he]; exact hu⟩⟩
/-! ### Amounts -/
def tB (B : Int → Bool) (c : List UInt8) : List Leg → Int
  | [] => 0
  | m :: L => (if m.currency = c ∧ B m.account = true then m.amount else 0) + tB B c L
def TJ (B : Int → Bool) (sg : Int) (c : List UInt8) (bk : Int) : List Entry → Int
  | [] => 0
  | e :: L => (if bk < e.booked then 0 else sg * tB B c e.legs) + TJ B sg c bk L
theorem tB_all {B : Int → Bool} (c : List UInt8) : ∀ {L : List Leg}, (∀ x ∈ L, B x.account = true) → tB B c L = totL c L
  | [], _ => rfl
  | m :: L, h => by
    rw [tB, totL, tB_all c fun x hx => h x (List.mem_cons_of_mem _ hx)]
    simp [h m (List.mem_cons_self ..)]
theorem tB_or {B B1 B2 : Int → Bool} (c : List UInt8) (h1 : ∀ id, B id = (B1 id || B2 id)) (h2 : ∀ id, ¬ (B1 id = true ∧ B2 id = true)) : ∀ L : List Leg, tB B c L = tB B1 c L + tB B2 c L
  | [] => rfl
  | m :: L => by
    rw [tB, tB, tB, tB_or c h1 h2 L, h1]
    have := h2 m.account
    by_cases hc : m.currency = c
    · cases h3 : B1 m.account <;> cases h4 : B2 m.account <;> simp [hc]
      · omega
      · omega
      · exact absurd ⟨h3, h4⟩ this
    · simp [hc]
theorem TJ_or {B B1 B2 : Int → Bool} (sg : Int) (c : List UInt8) (bk : Int) (h1 : ∀ id, B id = (B1 id || B2 id)) (h2 : ∀ id, ¬ (B1 id = true ∧ B2 id = true)) : ∀ L : List Entry, TJ B sg c bk L = TJ B1 sg c bk L + TJ B2 sg c bk L
  | [] => rfl
  | e :: L => by
    rw [TJ, TJ, TJ, TJ_or sg c bk h1 h2 L, tB_or c h1 h2, Int.mul_add]
    split <;> omega
theorem tB_none (c : List UInt8) : ∀ L : List Leg, tB (fun _ => false) c L = 0
  | [] => rfl
  | m :: L => by rw [tB, tB_none c L]; simp
theorem TJ_none (sg : Int) (c : List UInt8) (bk : Int) : ∀ L : List Entry, TJ (fun _ => false) sg c bk L = 0
  | [] => rfl
  | e :: L => by rw [TJ, TJ_none sg c bk L, tB_none]; simp
theorem legN_eq (b : Books) (r : Row) (c : List UInt8) : ∀ (L : List Leg) (n : Int), w (L.foldl (legN b r c) n) = w (n + tB (belongsB b r) c L)
  | [], n => by rw [tB]; simp
  | m :: L, n => by
    rw [List.foldl_cons, legN_eq b r c L, tB]
    unfold legN
    split
    · simp only [w, IntKind.wrap_i64]; omega
    · congr 1; omega
theorem sumN_eq (b : Books) (r : Row) (c : List UInt8) (bk : Int) (hs : r.sign = 1 ∨ r.sign = -1) : sumN b r c bk = w (TJ (belongsB b r) r.sign c bk b.journal) := by
  have key : ∀ (L : List Entry) (n : Int), w (L.foldl (jN b r c bk) n) = w (n + TJ (belongsB b r) r.sign c bk L) := by
    intro L
    induction L with
    | nil => intro n; rw [TJ]; simp
    | cons e L ih =>
      intro n
      rw [List.foldl_cons, ih, TJ]
      unfold jN
      split
      · congr 1; omega
      · have := legN_eq b r c e.legs 0
        unfold amountN
        generalize e.legs.foldl (legN b r c) 0 = x at this
        generalize tB (belongsB b r) c e.legs = y at this
        generalize TJ (belongsB b r) r.sign c bk L = z
        simp only [w, IntKind.wrap_i64] at this ⊢
        rcases hs with hs | hs <;> rw [hs] <;> omega
  have hw : ∀ (L : List Entry) (n : Int), w n = n → w (L.foldl (jN b r c bk) n) = L.foldl (jN b r c bk) n := by
    intro L
    induction L with
    | nil => intro n h; exact h
    | cons e L ih =>
      intro n h
      rw [List.foldl_cons]
      refine ih _ ?_
      unfold jN
      split
      · exact h
      · exact wrap_i64 _ (w_rng _)
  have := key b.journal 0
  rw [Int.zero_add] at this
  rw [← this, hw _ _ (by simp [w, IntKind.wrap_i64])]; rfl
/-- All accounts together are balanced. -/
theorem sum_all {b : Books} (h : SND b) (c : List UInt8) (bk : Int) : sumN b (allRow b.chart) c bk = 0 := by
  have hg := good_of h.chart
  have hd := dep_found h.chart
  rw [sumN_eq _ _ _ _ (.inl rfl)]
  have key : ∀ L : List Entry, (∀ e ∈ L, EntOK b e) → w (TJ (belongsB b (allRow b.chart)) (allRow b.chart).sign c bk L) = 0 := by
    intro L
    induction L with
    | nil => intro _; simp [TJ, w, IntKind.wrap_i64]
    | cons e L ih =>
      intro hL
      have h1 := ih fun x hx => hL x (List.mem_cons_of_mem _ hx)
      obtain ⟨_, h2, h3⟩ := hL e (List.mem_cons_self ..)
      have h4 := tB_all (B := belongsB b (allRow b.chart)) c fun x hx => belongs_all hg hd (h3 x hx)
      rw [TJ, h4]
      have h5 := h2 c
      have h6 : (allRow b.chart).sign = 1 := rfl
      rw [h6] at h1 ⊢
      generalize totL c e.legs = x at h5 ⊢
      generalize TJ (belongsB b (allRow b.chart)) 1 c bk L = y at h1 ⊢
      simp only [w, IntKind.wrap_i64] at h1 h5 ⊢
      split <;> omega
  exact key _ h.ents
/-! ### Parts -/
def partRow (r : Row) (x : Int) : Row := ⟨r.name, r.sign, [x]⟩
def headRow (r : Row) (k : Nat) : Row := ⟨r.name, r.sign, r.roots.take k⟩
theorem part_ok {b : Books} {r : Row} (h : chk b [r] = 0) {k : Nat} (hk : k < r.roots.length) : chk b [partRow r r.roots[k]] = 0 := by
  obtain ⟨h1, h2, h3⟩ := chk_one_iff.1 h
  refine chk_one_iff.2 ⟨h1, h2, rootE_zero.2 fun i hi => ?_⟩
  have : i = 0 := by simp [partRow] at hi; omega
  subst this
  exact ⟨(rootE_zero.1 h3 k hk).1, fun k hk => absurd hk (by omega)⟩
theorem belongs_take {b : Books} {r : Row} (hg : Good b.chart) (hd : (findG b.chart b.plan.deposits).isSome = true) (h : chk b [r] = 0) {k : Nat} (hk : k < r.roots.length) (id : Int) :
    belongsB b (headRow r (k + 1)) id = (belongsB b (headRow r k) id || belongsB b (partRow r r.roots[k]) id) ∧ ¬ (belongsB b (headRow r k) id = true ∧ belongsB b (partRow r r.roots[k]) id = true) := by
  have hp : ∀ L : List Int, belongsB b ⟨r.name, r.sign, L⟩ id = true ↔ owner b id ≠ 0 ∧ ∃ x ∈ L, under b.chart (owner b id) x = true := fun L => by
    unfold belongsB
    rw [Bool.and_eq_true, posU_iff, decide_eq_true_eq]
  have hts : r.roots.take (k + 1) = r.roots.take k ++ [r.roots[k]] := List.take_succ_eq_append_getElem hk
  constructor
  · rw [Bool.eq_iff_iff, Bool.or_eq_true]
    unfold headRow partRow
    rw [hp, hp, hp, hts]
    simp only [List.mem_append, List.mem_singleton]
    constructor
    · rintro ⟨h0, x, hx | rfl, hu⟩
      · exact .inl ⟨h0, x, hx, hu⟩
      · exact .inr ⟨h0, _, rfl, hu⟩
    · rintro (⟨h0, x, hx, hu⟩ | ⟨h0, x, rfl, hu⟩)
      · exact ⟨h0, x, .inl hx, hu⟩
      · exact ⟨h0, _, .inr rfl, hu⟩
  · unfold headRow partRow
    rw [hp, hp]
    rintro ⟨⟨h0, x, hx, hu⟩, _, y, hy, hv⟩
    rw [List.mem_singleton] at hy
    subst hy
    obtain ⟨j, hj, rfl⟩ := List.getElem_of_mem hx
    rw [List.length_take] at hj
    rw [List.getElem_take] at hu
    obtain ⟨_, _, h3⟩ := chk_one_iff.1 h
    have hno := (rootE_zero.1 h3 k hk).2 j (by omega)
    rcases hg.under_chain (owner_found hd h0) hu hv with e | e
    · rw [hno.2] at e; cases e
    · rw [hno.1] at e; cases e
theorem sumT_take {b : Books} {r : Row} (h : SND b) (hc : chk b [r] = 0) (c : List UInt8) (bk : Int) {k : Nat} (hk : k < r.roots.length) :
    w (TJ (belongsB b (headRow r (k + 1))) r.sign c bk b.journal) = w (w (TJ (belongsB b (headRow r k)) r.sign c bk b.journal) + sumN b (partRow r r.roots[k]) c bk) := by
  obtain ⟨_, hs, _⟩ := chk_one_iff.1 hc
  have hg := good_of h.chart
  have hd := dep_found h.chart
  rw [sumN_eq b (partRow r r.roots[k]) c bk hs, TJ_or r.sign c bk (fun id => (belongs_take hg hd hc hk id).1) (fun id => (belongs_take hg hd hc hk id).2)]
  have : (partRow r r.roots[k]).sign = r.sign := rfl
  rw [this]
  simp only [w, IntKind.wrap_i64]
  omega
theorem sum_zero {b : Books} {r : Row} (c : List UInt8) (bk : Int) : w (TJ (belongsB b (headRow r 0)) r.sign c bk b.journal) = 0 := by
  have : belongsB b (headRow r 0) = fun _ => false := by
    funext id
    unfold belongsB headRow posU
    simp
  rw [this, TJ_none]
  simp [w, IntKind.wrap_i64]
theorem sum_whole {b : Books} {r : Row} (hs : r.sign = 1 ∨ r.sign = -1) (c : List UInt8) (bk : Int) : w (TJ (belongsB b (headRow r r.roots.length)) r.sign c bk b.journal) = sumN b r c bk := by
  rw [sumN_eq b r c bk hs]
  have : headRow r r.roots.length = r := by cases r; simp [headRow]
  rw [this]
end Go.Proofs.YtmhbkofbbkogeaaGreat
