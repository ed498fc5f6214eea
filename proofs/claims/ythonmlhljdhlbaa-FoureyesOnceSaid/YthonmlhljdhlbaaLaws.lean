/-
  The laws on checks, proposals, decisions and expiry, over what the functions compute.
-/
import Derived.Test.YthonmlhljdhlbaaSpec6
namespace Go.Proofs.Ythonmlhljdhlbaa
open Go.VM
theorem e3 (l : List Request) : O 3 [.l (enc l)] = some (.b true) := by
  refine orun (fc := code3) rfl rfl rfl ?_
  cases h : great l <;> simp [code3, h, e10, e11, live]
theorem chk_ok {l : List Request} (h : chk l = 0) : l.length ≤ 64 ∧ ∀ i, i < l.length → cd l i = none := by
  refine ⟨chk_len h, fun i hi => ?_⟩
  unfold chk at h
  rw [if_neg (by have := chk_len h; omega)] at h
  cases hq : (List.range l.length).findSome? (cd l) with
  | none => exact range_find_none.1 hq i hi
  | some n =>
    rw [hq] at h
    simp only [optE] at h
    subst h
    obtain ⟨k, hk, hc⟩ := List.exists_of_findSome?_eq_some hq
    exfalso
    have hk' : k < l.length := List.mem_range.1 hk
    simp only [cd, List.getElem?_eq_getElem hk'] at hc
    split at hc
    · cases hc
    · split at hc
      · cases hc
      · split at hc
        · cases hc
        · split at hc <;> cases hc
theorem chk_of {l : List Request} (h1 : l.length ≤ 64) (h2 : ∀ i, i < l.length → cd l i = none) : chk l = 0 := by
  unfold chk
  rw [if_neg (by omega), range_find_none.2 h2]
  rfl
theorem cd_iff {l : List Request} {i : Nat} (hi : i < l.length) : cd l i = none ↔ bad1 l[i] = false ∧ bad2 l[i] = false ∧ (∀ j, i = j + 1 → ∀ hj : j < l.length, l[j].id < l[i].id) ∧ ¬ (l[i].state = 2 ∧ l[i].checker = l[i].maker) := by
  simp only [cd, List.getElem?_eq_getElem hi]
  cases hg : bad1 l[i] with
  | true => simp
  | false =>
    cases hn : bad2 l[i] with
    | true => simp
    | false =>
      simp only [Bool.false_eq_true, if_false, true_and]
      constructor
      · intro h
        split at h
        · cases h
        · rename_i hc
          split at h
          · cases h
          · rename_i hs
            refine ⟨fun j hj hjl => ?_, hs⟩
            subst hj
            simp [hjl] at hc
            exact hc
      · rintro ⟨h, hs⟩
        rw [if_neg, if_neg hs]
        rintro ⟨h0, hle⟩
        have hj : i - 1 < l.length := by omega
        have := h (i - 1) (by omega) hj
        simp [hj] at hle
        omega
theorem chk_append {l : List Request} {m : Request} (h : chk l = 0) (hm : chk [m] = 0) (hlt : l.length < 64) (hid : ∀ hl : 0 < l.length, l[l.length - 1].id < m.id) : chk (l ++ [m]) = 0 := by
  obtain ⟨_, h2⟩ := chk_ok h
  obtain ⟨_, h3⟩ := chk_ok hm
  refine chk_of (by simp; omega) fun i hi => ?_
  rw [cd_iff hi]
  simp only [List.length_append, List.length_singleton] at hi
  by_cases hi' : i < l.length
  · have := (cd_iff hi').1 (h2 i hi')
    simp only [List.getElem_append_left hi']
    refine ⟨this.1, this.2.1, fun j hj hjl => ?_, this.2.2.2⟩
    have hj' : j < l.length := by omega
    rw [List.getElem_append_left hj']
    exact this.2.2.1 j hj hj'
  · have hie : i = l.length := by omega
    subst hie
    have := (cd_iff (by simp : 0 < [m].length)).1 (h3 0 (by simp))
    simp only [List.getElem_cons_zero] at this
    simp only [List.getElem_append_right (Nat.le_refl _), Nat.sub_self, List.getElem_cons_zero]
    refine ⟨this.1, this.2.1, fun j hj hjl => ?_, this.2.2.2⟩
    have hj' : j < l.length := by omega
    rw [List.getElem_append_left hj']
    have := hid (by omega)
    have e : l.length - 1 = j := by omega
    simpa only [e] using this
theorem proposed_ok {l : List Request} {m : Request} (h : (proposed l m).2 = 0) : proposed l m = (l ++ [m], 0) ∧ chk (l ++ [m]) = 0 := by
  unfold proposed at h ⊢
  split at h
  · simp at h
  · rename_i c1
    split at h
    · simp at h
    · rename_i c2
      split at h
      · simp at h
      · rename_i c3
        rw [if_neg c1, if_neg c2, if_neg c3]
        refine ⟨rfl, ?_⟩
        have k1 : chk l = 0 := by false_or_by_contra; exact c1 (.inl (.inl ‹_›))
        have k2 : chk [m] = 0 := by false_or_by_contra; exact c1 (.inl (.inr ‹_›))
        refine chk_append k1 k2 (by omega) fun hl => ?_
        have hk : l.length - 1 < l.length := by omega
        have : ¬ (m.id ≤ (l[l.length - 1]?.map Request.id).getD 0) := fun h => c2 ⟨hl, h⟩
        rw [List.getElem?_eq_getElem hk] at this
        simp at this
        exact this
theorem proposed_small (l : List Request) (m : Request) (h : l.length ≤ 100) (hf : Few l) (hm : few m.command) : (proposed l m).1.length ≤ 1000 ∧ Few (proposed l m).1 := by
  have hnil : Few [] := fun r hr => by simp at hr
  unfold proposed
  split
  · exact ⟨by simp, hnil⟩
  · split
    · exact ⟨by simp, hnil⟩
    · split
      · exact ⟨by simp, hnil⟩
      · refine ⟨by simp; omega, fun r hr => ?_⟩
        rcases List.mem_append.1 hr with hr | hr
        · exact hf r hr
        · simp at hr; subst hr; exact hm
set_option maxHeartbeats 4000000 in
theorem e4 (l : List Request) (m : Request) : O 4 [.l (enc l), m.v] = some (.b true) := by
  refine orun (fc := code4) rfl rfl rfl ?_
  have h9 : O 9 [.l [m.v]] = some (.b (great [m])) := e9 [m]
  cases hg : great l with
  | true => simp [code4, hg, live]
  | false =>
    cases hg2 : great [m] with
    | true => rw [hg2] at h9; simp [code4, hg, h9, live]
    | false =>
      rw [hg2] at h9
      obtain ⟨hlen, hf⟩ := not_great hg
      have hm : few m.command := (not_great hg2).2 m (by simp)
      have h13 := e13 l m hf hm
      have h14 := e14 l m
      obtain ⟨hsl, hsf⟩ := proposed_small l m hlen hf hm
      have hok := @proposed_ok l m
      unfold resV' at h13 h14
      generalize proposed l m = p at h13 h14 hsl hsf hok
      obtain ⟨x, e⟩ := p
      simp only at h13 h14 hsl hsf hok
      have h15 := e15 x x hsl hsf
      have h10 := e10 x
      by_cases he : e = 0
      · subst he
        obtain ⟨hx, hchk⟩ := hok rfl
        simp only [Prod.mk.injEq, and_true] at hx
        rw [hx, hchk] at h10
        rw [hx] at h13 h14 h15
        simp [code4, hg, h9, h13, h14, h15, h10, live]
      · simp [code4, hg, h9, h13, h14, h15, he, live]
theorem dec_small (l : List Request) (id : Int) (name : List UInt8) (d s : Int) (may : Request → Int) (h : l.length ≤ 100) (hf : Few l) : (dec l id name d s may).1.length ≤ 100 ∧ Few (dec l id name d s may).1 ∧ few (dec l id name d s may).2.1 := by
  rcases dec_cases l id name d s may with ⟨e, _, he⟩ | ⟨i, hi, _, _, _, _, _, he⟩
  · rw [he]; exact ⟨by simp, fun r hr => by simp at hr, by simp [few, cz]⟩
  · rw [he]
    refine ⟨by simpa using h, fun r hr => ?_, hf _ (List.getElem_mem hi)⟩
    rcases List.mem_or_eq_of_mem_set hr with hr | rfl
    · exact hf r hr
    · exact hf l[i] (List.getElem_mem hi)
set_option maxHeartbeats 4000000 in
theorem e5 (l : List Request) (us : List User) (id : Int) (name : List UInt8) (d : Int) : O 5 [.l (enc l), .l (encU us), .a [.i .i64 id, .s name, .i .i64 d]] = some (.b true) := by
  refine orun (fc := code5) rfl rfl rfl ?_
  cases hg : great l with
  | true => simp [code5, hg, live]
  | false =>
    cases hu : ugreat us with
    | true => simp [code5, hg, hu, live]
    | false =>
      by_cases hn : (100 : Int) < (name.length : Int)
      · simp [code5, hg, hu, hn, live]
      · obtain ⟨hlen, hf⟩ := not_great hg
        have hul := ugreat_len hu
        have h17 := e17 l us id name d hlen hf hul
        have h18 := e18 l us id name d hlen hul
        have h19 := e19 l us id name d hlen hf hul
        have h20 := e20 l us id name d hlen hul
        obtain ⟨a1, a2, a3⟩ := dec_small l id name d 2 (mayA us name) hlen hf
        obtain ⟨b1, b2, _⟩ := dec_small l id name d 3 (mayR us name) hlen hf
        have s1 := e15 (approve l us id name d).1 (approve l us id name d).1 (by unfold approve; omega) a2
        have s2 := e15 (reject l us id name d).1 (reject l us id name d).1 (by unfold reject; omega) b2
        have s3 := e21 (approve l us id name d).2.1 (approve l us id name d).2.1 a3
        unfold decV at h17 h18
        generalize approve l us id name d = p at *
        generalize reject l us id name d = q at *
        simp [code5, hg, hu, hn, h17, h18, h19, h20, s1, s2, s3, live]
theorem expire_few {l : List Request} {d : Int} (hf : Few l) : Few (expire l d) := fun r hr => by
  obtain ⟨x, hx, rfl⟩ := List.mem_map.1 hr
  unfold exd
  split
  · exact hf x hx
  · exact hf x hx
theorem exd_open (d : Int) (r : Request) : ¬ ((exd d r).state = 1 ∧ (exd d r).until' < d) := by
  unfold exd
  split
  · simp
  · assumption
theorem l7 (l : List Request) (d : Int) (h : l.length ≤ 100) : loopK O [1, 5, 6] body7_1 [(1, .i .i64 d), (5, .ow 35 (enc (expire l d))), (6, .i .i64 0)] = some (.e 0, []) :=
  loopK_run (o := O) (kin := [1, 5, 6]) (c := body7_1) (fun i => [(1, .i .i64 d), (5, .ow 35 (enc (expire l d))), (6, .i .i64 i)]) l.length _ (by simp) (fun i hi => by
    have hw := wrap_i64 (i + 1) (by omega)
    have hx := exd_open d l[i]
    by_cases c1 : (exd d l[i]).state = 1
    · have c2 : ¬ (exd d l[i]).until' < d := fun h => hx ⟨c1, h⟩
      simp [body7_1, expire, hi, hw, c1, c2]
    · simp [body7_1, expire, hi, hw, c1]) (by simp [body7_1, expire]) (by simp)
theorem e7 (l : List Request) (d : Int) : O 7 [.l (enc l), .i .i64 d] = some (.b true) := by
  refine orun (fc := code7) rfl rfl rfl ?_
  cases hg : great l with
  | true => simp [code7, hg, live]
  | false =>
    obtain ⟨hlen, hf⟩ := not_great hg
    have h15 := e15 (expire l d) (expire l d) (by simp [expire]; omega) (expire_few hf)
    have h28 := e28 (opens l) (opens l) (by have := opens_len l; omega)
    simp [code7, hg, e26 l d hlen hf, e27 l d hlen, e29 l hlen, e30 l hlen, h15, h28, exec_loopK, l7 l d hlen, live]
end Go.Proofs.Ythonmlhljdhlbaa
