/-
  The check of a journal as a chain: that it answers, and what it says of the entries.
-/
import Derived.Test.YtdlpbedneamebaaGreatDoorSums
import Derived.Test.YtdlpbedneamebaaGreatDoorTot5
namespace Go.Proofs.YtdlpbedneamebaaGreatDoor
open Go.VM
variable {X : Orc}
/-! ### The encoding of an entry -/
set_option maxHeartbeats 8000000 in
theorem r178 (e : Entry) (h : e.legs.length ≤ 12) (hs : Shaped e) (i : Nat) (hi : i < e.legs.length) (ts : List (List UInt8)) (hts : ts.length = i) : ∃ t : List UInt8, t.length ≤ 200 ∧ kE [1, 3, 4] (exec (O X) body178_1 [(1, .bx e.cells), (3, .ow 9 (encL V.s ts)), (4, .i .i64 (i : Int))]) = some (.n, [(1, .bx e.cells), (3, .ow 9 (encL V.s (ts ++ [t]))), (4, .i .i64 ((i + 1 : Nat) : Int))]) := by
  have hw := wrap_i64 (i + 1) (by omega)
  obtain ⟨a, ha, hal⟩ := t212 (X := X) e.legs[i].account
  obtain ⟨n, hn, hnl⟩ := t212 (X := X) e.legs[i].amount
  have hc := hs.2.2 _ (List.getElem_mem hi)
  obtain ⟨t, ht, htl⟩ := t211 (X := X) [a, n, e.legs[i].currency] 21 (by omega) (by simp) (fun x hx => by
    rcases List.mem_cons.1 hx with rfl | hx
    · omega
    rcases List.mem_cons.1 hx with rfl | hx
    · omega
    · rw [List.mem_singleton.1 hx]; omega)
  refine ⟨t, by simp at htl; omega, ?_⟩
  have e1 : encL V.s (ts ++ [t]) = encL V.s ts ++ [.s t] := by simp [encL]
  have hul : (encL V.s ts).length = i := by simp [hts]
  have hb : (i + 1) * 16 ≤ 140737488355328 := by omega
  rw [e1]
  generalize encL V.s ts = U at hul ⊢
  simp only [encL, List.map_cons, List.map_nil] at ht
  simp (config := { maxSteps := 1000000 }) [body178_1, hi, hw, ha, hn, ht, hul, hb]
set_option maxHeartbeats 4000000 in
theorem t178 (e : Entry) (h : e.legs.length ≤ 12) (hs : Shaped e) : ∃ s : List UInt8, O X 178 [e.v] = some (.s s) ∧ s.length ≤ 1000000 := by
  have hx := loopK_inv (o := O X) (kin := [1, 3, 4]) (c := body178_1) (fun i env => ∃ ts : List (List UInt8), env = [(1, .bx e.cells), (3, .ow 9 (encL V.s ts)), (4, .i .i64 (i : Int))] ∧ ts.length = i ∧ ∀ t ∈ ts, t.length ≤ 200) e.legs.length (fun r => ∃ ts : List (List UInt8), r = (.e 0, [(1, .bx e.cells), (3, .ow 9 (encL V.s ts))]) ∧ ts.length ≤ 12 ∧ ∀ t ∈ ts, t.length ≤ 200) (fun i env hI => by obtain ⟨ts, rfl, _⟩ := hI; simp) (fun i env hi hI => by
    obtain ⟨ts, rfl, hl, ht⟩ := hI
    left
    obtain ⟨t, htl, hr⟩ := r178 (X := X) e h hs i hi ts hl
    refine ⟨_, hr, ts ++ [t], rfl, by simp [hl], fun x hx => ?_⟩
    rcases List.mem_append.1 hx with hx | hx
    · exact ht x hx
    · rw [List.mem_singleton.1 hx]; exact htl) (fun env hI => by
    obtain ⟨ts, rfl, hl, ht⟩ := hI
    exact ⟨(.e 0, [(1, .bx e.cells), (3, .ow 9 (encL V.s ts))]), by simp [body178_1], by simp, ts, rfl, by omega, ht⟩) e.legs.length 0 [(1, .bx e.cells), (3, .ow 9 []), (4, .i .i64 ((0 : Nat) : Int))] (by omega) ⟨[], rfl, rfl, by simp⟩
  obtain ⟨r, hx, ts, rfl, hl, ht⟩ := hx
  simp only [Int.natCast_zero] at hx
  obtain ⟨s0, h0, l0⟩ := t212 (X := X) e.id
  obtain ⟨s1, h1, l1⟩ := t212 (X := X) e.booked
  obtain ⟨s2, h2, l2⟩ := t212 (X := X) e.value
  obtain ⟨s3, h3, l3⟩ := t212 (X := X) e.kind
  obtain ⟨s4, h4, l4⟩ := t212 (X := X) e.auth
  obtain ⟨s5, h5, l5⟩ := t212 (X := X) e.period
  obtain ⟨p, hp, lp⟩ := t211 (X := X) ts 200 (by omega) (by omega) ht
  have lp' : p.length ≤ 12 * 222 := Nat.le_trans lp (Nat.mul_le_mul_right _ hl)
  obtain ⟨q, hq, lq⟩ := t211 (X := X) [s0, s1, s2, s3, s4, s5, e.key, e.text, p] 3000 (by omega) (by simp) (fun x hx => by
    have hk := hs.1
    have ht := hs.2.1
    simp only [List.mem_cons, List.not_mem_nil, or_false] at hx
    rcases hx with rfl | rfl | rfl | rfl | rfl | rfl | rfl | rfl | rfl <;> omega)
  refine ⟨q, orun (fc := code178) rfl rfl rfl ?_, by simp at lq; omega⟩
  simp only [encL, List.map_cons, List.map_nil] at hq
  generalize encL V.s ts = U at hx hp
  simp (config := { maxSteps := 1000000 }) [code178, exec_loopK, hx, h0, h1, h2, h3, h4, h5, hp, hq]
/-! ### What comes behind a journal -/
set_option maxHeartbeats 4000000 in
theorem t137 (l : List Entry) (e : Entry) (hl : l.length ≤ 1000) (h : e.legs.length ≤ 12) (hs : Shaped e) : ∃ a : Entry, O X 137 [.l (encE l), e.v] = some a.v ∧ a.id = (l.length : Int) + 1 ∧ a.legs.length ≤ 12 := by
  have hw := wrap_i64 ((l.length : Int) + 1) (by omega)
  obtain ⟨s, hs2, hsl⟩ := t178 (X := X) { e with id := (l.length : Int) + 1 } h hs
  have key : ∀ prev : Int, ∃ m, O X 177 [.i .u64 prev, .s s] = some (.i .u64 m) := fun prev => t177 (X := X) prev s hsl
  by_cases h0 : 0 < l.length
  · obtain ⟨p, hp⟩ : ∃ p, p + 1 = l.length := ⟨l.length - 1, by omega⟩
    have hpl : p < l.length := by omega
    have hw1 : IntKind.i64.wrap ((l.length : Int) - 1) = (p : Int) := by rw [wrap_i64 _ (by omega)]; omega
    obtain ⟨m, hm⟩ := key l[p].chain
    refine ⟨{ e with id := (l.length : Int) + 1, chain := m }, orun (fc := code137) rfl rfl rfl ?_, rfl, h⟩
    simp (config := { maxSteps := 1000000 }) [code137, h0, hw1, hpl, hw, hs2, hm]
  · obtain ⟨m, hm⟩ := key 0
    refine ⟨{ e with id := (l.length : Int) + 1, chain := m }, orun (fc := code137) rfl rfl rfl ?_, rfl, h⟩
    simp (config := { maxSteps := 1000000 }) [code137, h0, hw, hs2, hm]
theorem t176 (a b : List Leg) (ha : a.length ≤ 1000) : ∃ t, O X 176 [.l (encL Leg.v a), .l (encL Leg.v b)] = some (.b t) := by
  by_cases hne : (a.length : Int) = (b.length : Int)
  · have hl : ∃ r, loopK (O X) [0, 1, 5] body176_1 [(0, .l (encL Leg.v a)), (1, .l (encL Leg.v b)), (5, .i .i64 (0 : Nat))] = some r ∧ (r = (.r, [(4, .b false)]) ∨ r = (.e 0, [])) := by
      refine loopK_tot (fun i => [(0, .l (encL Leg.v a)), (1, .l (encL Leg.v b)), (5, .i .i64 (i : Int))]) a.length _ (by simp) (fun i hi => ?_) (by simp [body176_1])
      have hw := wrap_i64 (i + 1) (by omega)
      have hib : i < b.length := by omega
      by_cases h1 : a[i].account = b[i].account <;> by_cases h2 : a[i].amount = b[i].amount <;> by_cases h3 : a[i].currency = b[i].currency <;> simp [-Prod.exists, body176_1, hi, hib, hw, h1, h2, h3]
    obtain ⟨r, hl, hr⟩ := hl
    simp only [Int.natCast_zero] at hl
    rcases hr with rfl | rfl
    · exact ⟨false, orun (fc := code176) rfl rfl rfl (by simp [code176, hne, exec_loopK, hl])⟩
    · exact ⟨true, orun (fc := code176) rfl rfl rfl (by simp [code176, hne, exec_loopK, hl])⟩
  · exact ⟨false, orun (fc := code176) rfl rfl rfl (by simp [code176, hne])⟩
set_option maxHeartbeats 4000000 in
theorem t136 (a b : Entry) (ha : a.legs.length ≤ 1000) : ∃ t, O X 136 [a.v, b.v] = some (.b t) ∧ (t = true → a.id = b.id) := by
  obtain ⟨u, hu⟩ := t176 (X := X) a.legs b.legs ha
  have : ∃ y, O X 136 [a.v, b.v] = some y ∧ BP (a.id = b.id) y := by
    refine orunE (fc := code136) rfl rfl rfl ?_
    by_cases h0 : a.id = b.id
    · simp only [h0]
      simp (config := { maxSteps := 1000000 }) [code136, h0, hu]
      repeat' split
      all_goals simp
    · simp [code136, h0]
  obtain ⟨y, h, t, rfl, ht⟩ := this
  exact ⟨t, h, ht⟩
end Go.Proofs.YtdlpbedneamebaaGreatDoor
namespace Go.Proofs.YtdlpbedneamebaaGreatDoor
open Go.VM
variable {X : Orc}
def Chk (e : Entry) : Prop := e.legs.length ≤ 12 ∧ Flat e.legs ∧ Shaped e
theorem l135 (l : List Entry) (e : Entry) (h : l.length ≤ 1000) : ∃ r, loopK (O X) [0, 3, 6] body135_1 [(0, .l (encE l)), (3, .bx e.cells), (6, .i .i64 (0 : Nat))] = some r ∧ (r = (.r, [(4, .i .i64 12)]) ∨ r = (.e 0, [(0, .l (encE l)), (3, .bx e.cells)])) := by
  refine loopK_tot (fun i => [(0, .l (encE l)), (3, .bx e.cells), (6, .i .i64 (i : Int))]) l.length _ (by simp) (fun i hi => ?_) (by simp [body135_1])
  have hw := wrap_i64 (i + 1) (by omega)
  by_cases hk : l[i].key = e.key <;> simp [-Prod.exists, body135_1, hi, hw, hk]
set_option maxHeartbeats 4000000 in
theorem t135 (l : List Entry) (e : Entry) (h : l.length ≤ 1000) : ∃ n : Int, O X 135 [.l (encE l), e.v] = some (.i .i64 n) ∧ (n = 0 → Chk e) := by
  obtain ⟨n, hn, hp⟩ := t46 (X := X) e
  have : ∃ y, O X 135 [.l (encE l), e.v] = some y ∧ IP (Chk e) y := by
    refine orunE (fc := code135) rfl rfl rfl ?_
    by_cases h0 : n = 0
    · subst h0
      have hc : Chk e := hp rfl
      obtain ⟨r, hl, hr⟩ := l135 (X := X) l e h
      simp only [Int.natCast_zero] at hl
      rcases hr with rfl | rfl
      · simp [code135, hn, exec_loopK, hl]
      · by_cases h0 : 0 < l.length
        · obtain ⟨p, hp⟩ : ∃ p, p + 1 = l.length := ⟨l.length - 1, by omega⟩
          have hpl : p < l.length := by omega
          have hw1 : IntKind.i64.wrap ((l.length : Int) - 1) = (p : Int) := by rw [wrap_i64 _ (by omega)]; omega
          have h4 : ¬ (4096 : Int) ≤ (l.length : Int) := by omega
          by_cases hb : e.booked < l[p].booked
          · simp [code135, hn, exec_loopK, hl, h0, hw1, hpl, hb]
          · simp [code135, hn, exec_loopK, hl, h0, hw1, hpl, hb, h4, hc]
        · have h4 : ¬ (4096 : Int) ≤ (l.length : Int) := by omega
          simp [code135, hn, exec_loopK, hl, h0, h4, hc]
    · simp [code135, hn, h0]
  obtain ⟨y, h, n, rfl, hq⟩ := this
  exact ⟨n, h, hq⟩
set_option maxHeartbeats 4000000 in
theorem t84 (l : List Entry) (h : l.length ≤ 1000) : ∃ n : Int, O X 84 [.l (encE l)] = some (.i .i64 n) ∧ (n = -1 → ∀ (i : Nat) (hi : i < l.length), Chk l[i] ∧ l[i].id = (i : Int) + 1) := by
  have hx := loopK_inv (o := O X) (kin := [0, 3]) (c := body84_1) (fun i env => env = [(0, .l (encE l)), (3, .i .i64 (i : Int))] ∧ ∀ (k : Nat) (hk : k < l.length), k < i → Chk l[k] ∧ l[k].id = (k : Int) + 1) l.length (fun r => (∃ n : Nat, r = (.r, [(2, .i .i64 (n : Int))])) ∨ (r = (.e 0, []) ∧ ∀ (k : Nat) (hk : k < l.length), Chk l[k] ∧ l[k].id = (k : Int) + 1)) (fun i env hI => by obtain ⟨rfl, _⟩ := hI; simp) (fun i env hi hI => by
    obtain ⟨rfl, hz⟩ := hI
    have hw := wrap_i64 (i + 1) (by omega)
    have hs := slcT Entry.v 10 (fun _ => rfl) (O X) l i (by omega)
    have htl : (l.take i).length = i := by rw [List.length_take]; omega
    obtain ⟨n, hn, hc⟩ := t135 (X := X) (l.take i) l[i] (by omega)
    by_cases h0 : n = 0
    · subst h0
      have hch := hc rfl
      obtain ⟨a, ha, hid, hal⟩ := t137 (X := X) (l.take i) l[i] (by omega) hch.1 hch.2.2
      rw [htl] at hid
      obtain ⟨t, ht, hti⟩ := t136 (X := X) a l[i] (by omega)
      cases t with
      | false =>
        right
        exact ⟨(.r, [(2, .i .i64 (i : Int))]), by simp [body84_1, hi, hs, hn, ha, ht], by simp, .inl ⟨i, rfl⟩⟩
      | true =>
        left
        refine ⟨[(0, .l (encE l)), (3, .i .i64 ((i + 1 : Nat) : Int))], by simp [body84_1, hi, hs, hn, ha, ht, hw], rfl, fun k hk hki => ?_⟩
        by_cases e : k = i
        · subst e; exact ⟨hch, by rw [← hti rfl, hid]⟩
        · exact hz k hk (by omega)
    · right
      exact ⟨(.r, [(2, .i .i64 (i : Int))]), by simp [body84_1, hi, hs, hn, h0], by simp, .inl ⟨i, rfl⟩⟩) (fun env hI => by
    obtain ⟨rfl, hz⟩ := hI
    exact ⟨(.e 0, []), by simp [body84_1], by simp, .inr ⟨rfl, fun k hk => hz k hk hk⟩⟩) l.length 0 [(0, .l (encE l)), (3, .i .i64 ((0 : Nat) : Int))] (by omega) ⟨rfl, fun k _ h => absurd h (by omega)⟩
  obtain ⟨r, hx, hr⟩ := hx
  simp only [Int.natCast_zero] at hx
  rcases hr with ⟨n, rfl⟩ | ⟨rfl, hz⟩
  · exact ⟨n, orun (fc := code84) rfl rfl rfl (by simp [code84, exec_loopK, hx]), fun e => by omega⟩
  · exact ⟨-1, orun (fc := code84) rfl rfl rfl (by simp [code84, exec_loopK, hx]), fun _ => hz⟩
/-! ### Legs -/
theorem t179 (l : List Gl) (id : Int) (h : l.length ≤ 1000) : ∃ t, O X 179 [.l (encG l), .i .i64 id] = some (.b t) ∧ (t = false → ∀ g ∈ l, g.parent ≠ id) := by
  have hx := loopK_inv (o := O X) (kin := [0, 1, 5]) (c := body179_1) (fun i env => env = [(0, .l (encG l)), (1, .i .i64 id), (5, .i .i64 (i : Int))] ∧ ∀ (k : Nat) (hk : k < l.length), k < i → l[k].parent ≠ id) l.length (fun r => r = (.r, [(4, .b true)]) ∨ (r = (.e 0, []) ∧ ∀ g ∈ l, g.parent ≠ id)) (fun i env hI => by obtain ⟨rfl, _⟩ := hI; simp) (fun i env hi hI => by
    obtain ⟨rfl, hz⟩ := hI
    have hw := wrap_i64 (i + 1) (by omega)
    by_cases h0 : l[i].parent = id
    · right
      exact ⟨(.r, [(4, .b true)]), by simp [body179_1, hi, h0], by simp, .inl rfl⟩
    · left
      refine ⟨[(0, .l (encG l)), (1, .i .i64 id), (5, .i .i64 ((i + 1 : Nat) : Int))], by simp [body179_1, hi, h0, hw], rfl, fun k hk hki => ?_⟩
      by_cases e : k = i
      · subst e; exact h0
      · exact hz k hk (by omega)) (fun env hI => by
    obtain ⟨rfl, hz⟩ := hI
    refine ⟨(.e 0, []), by simp [body179_1], by simp, .inr ⟨rfl, fun g hg => ?_⟩⟩
    obtain ⟨k, hk, rfl⟩ := List.getElem_of_mem hg
    exact hz k hk hk) l.length 0 [(0, .l (encG l)), (1, .i .i64 id), (5, .i .i64 ((0 : Nat) : Int))] (by omega) ⟨rfl, fun k _ h => absurd h (by omega)⟩
  obtain ⟨r, hx, hr⟩ := hx
  simp only [Int.natCast_zero] at hx
  rcases hr with rfl | ⟨rfl, hz⟩
  · exact ⟨true, orun (fc := code179) rfl rfl rfl (by simp [code179, exec_loopK, hx]), by simp⟩
  · exact ⟨false, orun (fc := code179) rfl rfl rfl (by simp [code179, exec_loopK, hx]), fun _ => hz⟩
def KnownL (b : Books) (id : Int) : Prop := ((findG b.chart id).isSome = true ∧ ∀ g ∈ b.chart, g.parent ≠ id) ∨ (1000 ≤ id ∧ (posA b.accounts id).isSome = true)
theorem aV_ex (l : List Account) (id : Int) : ∃ (a : Account) (t : Bool), aV l (posA l id) = .t [a.v, .b t] ∧ (t = true → (posA l id).isSome = true) := by
  cases h : posA l id with
  | none => exact ⟨a0, false, rfl, by simp⟩
  | some i =>
    obtain ⟨hi, _⟩ := posA_some h
    exact ⟨l[i], true, by simp [aV, hi], by simp⟩
set_option maxHeartbeats 8000000 in
theorem t138 (b : Books) (x : Leg) (bk : Int) (h : Szs b) : ∃ n : Int, O X 138 [b.v, x.v, .i .i64 bk] = some (.i .i64 n) ∧ (n = 0 → KnownL b x.account) := by
  have h39 := e129 (X := X) b.currencies x.currency h.curs
  obtain ⟨c, t1, hc⟩ := cV_ex' (findC b.currencies x.currency)
  rw [hc] at h39
  have : ∃ y, O X 138 [b.v, x.v, .i .i64 bk] = some y ∧ IP (KnownL b x.account) y := by
    refine orunE (fc := code138) rfl rfl rfl ?_
    by_cases hlt : x.account < 1000
    · have h77 := e77 (X := X) b.chart x.account h.chart
      obtain ⟨g, t2, hg, hk⟩ := gV_ex (findG b.chart x.account)
      rw [hg] at h77
      obtain ⟨t3, h179, hp⟩ := t179 (X := X) b.chart x.account h.chart
      cases t2 with
      | false => simp (config := { maxSteps := 1000000 }) [code138, h39, hlt, h77]
      | true =>
        cases t3 with
        | true => simp (config := { maxSteps := 1000000 }) [code138, h39, hlt, h77, h179]
        | false =>
          have hkn : KnownL b x.account := .inl ⟨hk rfl, hp rfl⟩
          cases t1 <;> simp (config := { maxSteps := 1000000 }) [code138, h39, hlt, h77, h179, hkn]
    · have h180 := e180 (X := X) b x.account h.accs
      obtain ⟨a, t2, ha, hk⟩ := aV_ex b.accounts x.account
      rw [ha] at h180
      cases t2 with
      | false => simp (config := { maxSteps := 1000000 }) [code138, h39, hlt, h180]
      | true =>
        have hkn : KnownL b x.account := .inr ⟨by omega, hk rfl⟩
        obtain ⟨p, t3, h134⟩ := t63 (X := X) b.products a.product a.opened h.prods
        obtain ⟨t4, h181, _⟩ := t70 (X := X) b x.account bk h.accs
        cases t1 with
        | false => simp (config := { maxSteps := 1000000 }) [code138, h39, hlt, h180, h134]
        | true =>
        cases t3 with
        | false => simp (config := { maxSteps := 1000000 }) [code138, h39, hlt, h180, h134]
        | true =>
        by_cases hcu : p.currency = x.currency
        · cases t4 <;> simp (config := { maxSteps := 1000000 }) [code138, h39, hlt, h180, h134, hcu, h181, hkn]
        · simp (config := { maxSteps := 1000000 }) [code138, h39, hlt, h180, h134, hcu]
  obtain ⟨y, h, n, rfl, hq⟩ := this
  exact ⟨n, h, hq⟩
end Go.Proofs.YtdlpbedneamebaaGreatDoor
