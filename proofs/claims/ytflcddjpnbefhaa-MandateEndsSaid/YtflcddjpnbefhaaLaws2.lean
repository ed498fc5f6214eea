/-
  The laws on what is permitted, and on what is revoked.
-/
import Derived.Test.YtflcddjpnbefhaaLaws
namespace Go.Proofs.Ytflcddjpnbefhaa
open Go.VM
theorem ids_lt {l : List Mandate} (h : chk l = 0) : ∀ (d i : Nat) (hi : i < l.length) (hj : i + d + 1 < l.length), l[i].id < l[i + d + 1].id
  | 0, i, hi, hj => ((cd_iff hj).1 ((chk_ok h).2 _ hj)).2.2 i rfl hi
  | d + 1, i, hi, hj => Int.lt_trans (ids_lt h d i hi (by omega)) (((cd_iff hj).1 ((chk_ok h).2 _ hj)).2.2 (i + d + 1) rfl (by omega))
theorem ids_ne {l : List Mandate} (h : chk l = 0) {i j : Nat} (hi : i < l.length) (hj : j < l.length) (he : l[i].id = l[j].id) : i = j := by
  rcases Nat.lt_trichotomy i j with hlt | he' | hlt
  · have := ids_lt h (j - i - 1) i hi (by omega)
    have e : i + (j - i - 1) + 1 = j := by omega
    simp only [e] at this
    omega
  · exact he'
  · have := ids_lt h (i - j - 1) j hj (by omega)
    have e : j + (i - j - 1) + 1 = i := by omega
    simp only [e] at this
    omega
/-- The position of an Id, or none. -/
theorem pos_none {l : List Mandate} {id : Int} (h : pos l id = none) : ∀ i, ∀ hi : i < l.length, l[i].id ≠ id := by
  intro i hi he
  have := range_find_none.1 h i hi
  simp [placeAt, hi, he] at this
def hit (m : Mandate) (id a d : Int) : Bool :=
  (((decide (m.id = id) && decide (m.signed ≤ d)) && (decide (m.revoked = 0) || decide (d < m.revoked))) && ((decide (d ≤ m.signed + 1096) && decide (m.used = 0)) || (decide (0 < m.used) && decide (d ≤ m.used + 1096)))) && (decide (m.limit = 0) || decide (a ≤ m.limit))
def hitAt (l : List Mandate) (id a d : Int) (i : Nat) : Bool := match l[i]? with
  | some m => hit m id a d
  | none => false
def anyHit (l : List Mandate) (id a d : Int) (k : Nat) : Bool := (List.range k).any (hitAt l id a d)
theorem anyHit_succ (l : List Mandate) (id a d : Int) (k : Nat) : anyHit l id a d (k + 1) = (anyHit l id a d k || hitAt l id a d k) := by
  simp [anyHit, List.range_succ]
/-- The numbers of a mandate that is accepted. -/
theorem good_num {m : Mandate} (h : good m = true) : 1 ≤ m.id ∧ (0 ≤ m.signed ∧ m.signed ≤ 73048) ∧ (m.used = 0 ∨ (0 ≤ m.used ∧ m.used ≤ 73048 ∧ m.signed ≤ m.used)) ∧ (m.revoked = 0 ∨ (0 ≤ m.revoked ∧ m.revoked ≤ 73048)) := by
  simp only [good, later, validD, Bool.and_eq_true, Bool.or_eq_true, decide_eq_true_eq] at h
  omega
theorem more_iff {a b : Int} (ha : 0 ≤ a ∧ a ≤ 73048) (hb : 0 ≤ b ∧ b ≤ 73048) : moreB a b = decide (b + 1096 < a) := by
  unfold moreB
  rw [Bool.eq_iff_iff]
  simp only [Bool.and_eq_true, decide_eq_true_eq]
  constructor
  · rintro ⟨h1, h2⟩
    rw [IntWalk.u64_in a (by omega), IntWalk.u64_in b (by omega), IntWalk.u64_in (a - b) (by omega)] at h2
    omega
  · intro h
    refine ⟨by omega, ?_⟩
    rw [IntWalk.u64_in a (by omega), IntWalk.u64_in b (by omega), IntWalk.u64_in (a - b) (by omega)]
    omega
theorem hit_allow {m : Mandate} (hg : good m = true) {id a d : Int} (hid : m.id = id) (hd : 0 ≤ d ∧ d ≤ 73048) : hit m id a d = decide (allowM m a d = 0) := by
  obtain ⟨_, h1, h2, h3⟩ := good_num hg
  have hx : expired m d = decide ((if m.used = 0 then m.signed else m.used) + 1096 < d) := more_iff hd (by split <;> omega)
  rw [Bool.eq_iff_iff]
  simp only [hit, allowM, hx, Bool.and_eq_true, Bool.or_eq_true, decide_eq_true_eq]
  by_cases hu : m.used = 0
  · simp only [if_pos hu]
    constructor
    · intro h
      rw [if_neg (by omega), if_neg (by omega), if_neg (by omega)]
    · intro h
      split at h
      · omega
      · split at h
        · omega
        · split at h
          · omega
          · omega
  · simp only [if_neg hu]
    constructor
    · intro h
      rw [if_neg (by omega), if_neg (by omega), if_neg (by omega)]
    · intro h
      split at h
      · omega
      · split at h
        · omega
        · split at h
          · omega
          · omega
theorem any_allow {l : List Mandate} (h : chk l = 0) (id a d : Int) (hd : 0 ≤ d ∧ d ≤ 73048) : anyHit l id a d l.length = decide (allow l id a d = 0) := by
  unfold anyHit allow
  cases hp : pos l id with
  | none =>
    rw [Bool.eq_iff_iff]
    simp only [List.any_eq_true, List.mem_range, Option.bind_none, decide_eq_true_eq]
    constructor
    · rintro ⟨i, hi, hh⟩
      simp only [hitAt, List.getElem?_eq_getElem hi, hit, Bool.and_eq_true, decide_eq_true_eq] at hh
      exact absurd hh.1.1.1.1 (pos_none hp i hi)
    · intro h; omega
  | some i =>
    obtain ⟨hi, hid⟩ := pos_some hp
    have hgd := ((cd_iff hi).1 ((chk_ok h).2 i hi)).1
    simp only [Option.bind_some, List.getElem?_eq_getElem hi]
    rw [← hit_allow hgd hid hd, Bool.eq_iff_iff]
    simp only [List.any_eq_true, List.mem_range]
    constructor
    · rintro ⟨j, hj, hh⟩
      simp only [hitAt, List.getElem?_eq_getElem hj] at hh
      have hjd : l[j].id = id := by
        simp only [hit, Bool.and_eq_true, decide_eq_true_eq] at hh
        exact hh.1.1.1.1
      have := ids_ne h hi hj (hid.trans hjd.symm)
      subst this
      exact hh
    · intro hh
      exact ⟨i, hi, by simpa only [hitAt, List.getElem?_eq_getElem hi] using hh⟩
theorem l7 (l : List Mandate) (id a d : Int) (h : chk l = 0) : loopK O [0, 3, 5, 6] body7_1 [(0, .l (enc l)), (3, .bx [.i .i64 id, .i .i64 a, .i .i64 d]), (5, .b (anyHit l id a d 0)), (6, .i .i64 0)] = some (.e 0, [(0, .l (enc l)), (3, .bx [.i .i64 id, .i .i64 a, .i .i64 d]), (5, .b (anyHit l id a d l.length))]) :=
  loopK_run (o := O) (kin := [0, 3, 5, 6]) (c := body7_1) (fun i => [(0, .l (enc l)), (3, .bx [.i .i64 id, .i .i64 a, .i .i64 d]), (5, .b (anyHit l id a d i)), (6, .i .i64 i)]) l.length _ (by simp) (fun i hi => by
    have hlen := (chk_ok h).1
    have hw := wrap_i64 (i + 1) (by omega)
    obtain ⟨_, h1, h2, h3⟩ := good_num ((cd_iff hi).1 ((chk_ok h).2 i hi)).1
    have w1 := wrap_i64 (l[i].signed + 1096) (by omega)
    have w2 := wrap_i64 (l[i].used + 1096) (by omega)
    simp [body7_1, hi, hw, w1, w2, anyHit_succ, hitAt, hit]) (by simp [body7_1]) (by simp)
set_option maxHeartbeats 2000000 in
theorem e7 (l : List Mandate) (id a d : Int) : O 7 [.l (enc l), .a [.i .i64 id, .i .i64 a, .i .i64 d]] = some (.b true) := by
  refine orun (fc := code7) rfl rfl rfl ?_
  cases hs : shortB l with
  | false => simp [code7, hs, live]
  | true =>
    have hlen := short_len hs
    by_cases hc : chk l = 0
    · by_cases hd : 0 ≤ d ∧ d ≤ 73048
      · have h1 : ¬ d < 0 := by omega
        have h2 : ¬ 73048 < d := by omega
        have hl := l7 l id a d hc
        rw [any_allow hc id a d hd] at hl
        have h0 : anyHit l id a d 0 = false := by simp [anyHit]
        rw [h0] at hl
        simp [code7, hs, e11, hc, h1, h2, exec_loopK, hl, e22 l id a d (by omega), live]
      · have h1 : d < 0 ∨ 73048 < d := by omega
        rcases h1 with h1 | h1 <;> simp [code7, hs, e11, hc, h1, live]
    · simp [code7, hs, e11, hc, live]

/-! ### What is revoked -/
theorem pos_at {l : List Mandate} (h : chk l = 0) {i : Nat} (hi : i < l.length) : pos l l[i].id = some i := by
  cases hp : pos l l[i].id with
  | none => exact absurd rfl (pos_none hp i hi)
  | some j =>
    obtain ⟨hj, hid⟩ := pos_some hp
    rw [ids_ne h hj hi hid]
theorem revoked_spec {l : List Mandate} {id d : Int} (h : (revoked l id d).2 = 0) : ∃ i, ∃ hi : i < l.length, pos l id = some i ∧ l[i].id = id ∧ l[i].revoked = 0 ∧ 1 ≤ d ∧ d ≤ 73048 ∧ l[i].signed ≤ d ∧ revoked l id d = (l.set i { l[i] with revoked := d }, 0) := by
  unfold revoked at h ⊢
  cases hp : pos l id with
  | none => rw [hp] at h; simp at h
  | some i =>
    obtain ⟨hi, hid⟩ := pos_some hp
    rw [hp] at h
    simp only [List.getElem?_eq_getElem hi] at h ⊢
    split at h
    · simp at h
    · rename_i c1
      split at h
      · simp at h
      · rename_i c2
        refine ⟨i, hi, rfl, hid, by omega, by omega, by omega, by omega, ?_⟩
        rw [if_neg c1, if_neg c2]
theorem revoked_none {l : List Mandate} {id d : Int} (h : (revoked l id d).2 ≠ 0) : (revoked l id d).1 = [] := by
  unfold revoked at h ⊢
  split
  · rfl
  · split
    · split
      · rfl
      · split
        · rfl
        · rename_i i hp _ m hm c1 c2
          rw [hp] at h
          simp only [hm] at h
          rw [if_neg c1, if_neg c2] at h
          exact absurd rfl h
    · rfl
section
variable {l : List Mandate} {i : Nat} {d : Int} (hi : i < l.length)
theorem set_get (j : Nat) (hj : j < l.length) : (l.set i { l[i] with revoked := d })[j]'(by simpa using hj) = if i = j then { l[i] with revoked := d } else l[j] := by
  rw [List.getElem_set]
theorem set_id (j : Nat) (hj : j < l.length) : ((l.set i { l[i] with revoked := d })[j]'(by simpa using hj)).id = l[j].id := by
  rw [set_get hi j hj]
  split
  · rename_i e; subst e; rfl
  · rfl
theorem set_pos (id : Int) : pos (l.set i { l[i] with revoked := d }) id = pos l id := by
  unfold pos
  rw [List.length_set]
  refine range_find_congr fun j hj => ?_
  simp only [placeAt, List.getElem?_eq_getElem hj, List.getElem?_eq_getElem (show j < (l.set i { l[i] with revoked := d }).length from by simpa using hj), set_id hi j hj]
theorem set_chk (h : chk l = 0) (h1 : 1 ≤ d) (h2 : d ≤ 73048) (h3 : l[i].signed ≤ d) : chk (l.set i { l[i] with revoked := d }) = 0 := by
  obtain ⟨hl, hcd⟩ := chk_ok h
  refine chk_of (by simpa using hl) fun j hj => ?_
  have hj' : j < l.length := by simpa using hj
  obtain ⟨g1, g2, g3⟩ := (cd_iff hj').1 (hcd j hj')
  rw [cd_iff hj]
  refine ⟨?_, ?_, fun k hk hkl => ?_⟩
  · rw [set_get hi j hj']
    split
    · rename_i e; subst e
      simp only [good, later, validD, Bool.and_eq_true, Bool.or_eq_true, decide_eq_true_eq] at g1 ⊢
      exact ⟨g1.1, .inr ⟨⟨by omega, by omega⟩, h3⟩⟩
    · exact g1
  · rw [set_get hi j hj']
    split
    · rename_i e; subst e; exact g2
    · exact g2
  · have hk' : k < l.length := by simpa using hkl
    rw [set_id hi j hj', set_id hi k hk']
    exact g3 k hk hk'
theorem set_allow (id a e : Int) (hp : pos l id ≠ some i) : allow (l.set i { l[i] with revoked := d }) id a e = allow l id a e := by
  unfold allow
  rw [set_pos hi]
  cases hq : pos l id with
  | none => rfl
  | some j =>
    obtain ⟨hj, _⟩ := pos_some hq
    simp only [Option.bind_some, List.getElem?_eq_getElem hj, List.getElem?_eq_getElem (show j < (l.set i { l[i] with revoked := d }).length from by simpa using hj), set_get hi j hj]
    rw [if_neg (fun e => by subst e; exact hp hq)]
theorem set_allow_at (id a e : Int) (hp : pos l id = some i) : allow (l.set i { l[i] with revoked := d }) id a e = allowM { l[i] with revoked := d } a e ∧ allow l id a e = allowM l[i] a e := by
  unfold allow
  rw [set_pos hi, hp]
  simp only [Option.bind_some, List.getElem?_eq_getElem hi, List.getElem?_eq_getElem (show i < (l.set i { l[i] with revoked := d }).length from by simpa using hi), set_get hi i hi]
  simp
end
theorem allowM_revoked (m : Mandate) (a d e : Int) (h0 : m.revoked = 0) (hd : 1 ≤ d) : allowM { m with revoked := d } a e = if d ≤ e then 17 else allowM m a e := by
  have he : expired { m with revoked := d } e = expired m e := rfl
  unfold allowM
  rw [he]
  by_cases h : d ≤ e
  · have : d ≠ 0 := by omega
    simp [h, this]
  · simp [h, h0]
theorem l8 (l x : List Mandate) (id a e d : Int) (h : l.length ≤ 100) (hx : x.length ≤ 100) (hn : ∀ i, ∀ hi : i < l.length, l[i].id ≠ id → allow x l[i].id a e = allow l l[i].id a e) : loopK O [0, 2, 4, 7, 11] body8_1 [(0, .l (enc l)), (2, .i .i64 d), (4, .bx [.i .i64 id, .i .i64 a, .i .i64 e]), (7, .ow 28 (enc x)), (11, .i .i64 0)] = some (.e 0, [(0, .l (enc l)), (2, .i .i64 d), (4, .bx [.i .i64 id, .i .i64 a, .i .i64 e]), (7, .ow 28 (enc x))]) :=
  loopK_run (o := O) (kin := [0, 2, 4, 7, 11]) (c := body8_1) (fun i => [(0, .l (enc l)), (2, .i .i64 d), (4, .bx [.i .i64 id, .i .i64 a, .i .i64 e]), (7, .ow 28 (enc x)), (11, .i .i64 i)]) l.length _ (by simp) (fun i hi => by
    have hw := wrap_i64 (i + 1) (by omega)
    by_cases hid : l[i].id = id
    · simp [body8_1, hi, hw, hid]
    · simp [body8_1, hi, hw, hid, e22 l _ a e (by omega : l.length ≤ 1000), e22 x _ a e (by omega : x.length ≤ 1000), hn i hi hid]) (by simp [body8_1]) (by simp)
set_option maxHeartbeats 4000000 in
theorem e8 (l : List Mandate) (id a e d : Int) : O 8 [.l (enc l), .a [.i .i64 id, .i .i64 a, .i .i64 e], .i .i64 d] = some (.b true) := by
  refine orun (fc := code8) rfl rfl rfl ?_
  cases hs : shortB l with
  | false => simp [code8, hs, live]
  | true =>
    have hlen := short_len hs
    by_cases hc : chk l = 0
    · have h16 := e16 l id d hlen
      have h17 := e17 l id d hlen
      by_cases h0 : (revoked l id d).2 = 0
      · obtain ⟨i, hi, hp, hid, hr, hd1, hd2, hd3, hrv⟩ := revoked_spec h0
        have hx := set_chk hi hc hd1 hd2 hd3
        have hn : ∀ j, ∀ hj : j < l.length, l[j].id ≠ id → allow (l.set i { l[i] with revoked := d }) l[j].id a e = allow l l[j].id a e := fun j hj hne => set_allow hi l[j].id a e (fun h => by
          rw [pos_at hc hj] at h
          cases h
          exact hne hid)
        have hal := (set_allow_at (d := d) hi id a e hp).1
        have hal' := (set_allow_at (d := d) hi id a e hp).2
        rw [allowM_revoked l[i] a d e hr hd1, ← hal'] at hal
        rw [hrv] at h16
        have hxl : (l.set i { l[i] with revoked := d }).length ≤ 100 := by simpa using hlen
        unfold resV' at h16
        clear hrv h17
        generalize l.set i { l[i] with revoked := d } = x at *
        have hl := l8 l x id a e d hlen hxl hn
        have h10 := e10 x
        rw [hx] at h10
        by_cases hde : d ≤ e
        · rw [if_pos hde] at hal
          simp [code8, hs, e11, hc, h16, h10, exec_loopK, hl, e22 x id a e (by omega), hal, hde, live]
        · rw [if_neg hde] at hal
          simp [code8, hs, e11, hc, h16, h10, exec_loopK, hl, e22 x id a e (by omega), e22 l id a e (by omega), hal, hde, live]
      · have hnil := revoked_none h0
        unfold resV' at h16 h17
        rw [hnil] at h16 h17
        generalize (revoked l id d).2 = p at *
        simp at h16 h17
        simp [code8, hs, e11, hc, h16, h17, h0, live]
    · simp [code8, hs, e11, hc, live]
end Go.Proofs.Ytflcddjpnbefhaa
