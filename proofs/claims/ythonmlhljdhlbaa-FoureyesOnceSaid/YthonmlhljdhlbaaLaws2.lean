/-
  The laws on deciding once, over what the functions compute.
-/
import Derived.Test.YthonmlhljdhlbaaLaws
namespace Go.Proofs.Ythonmlhljdhlbaa
open Go.VM
theorem rpos_set {l : List Request} {id : Int} {i : Nat} {r : Request} (hi : i < l.length) (hr : r.id = l[i].id) : rpos (l.set i r) id = rpos l id := by
  unfold rpos
  rw [List.length_set]
  refine range_find_congr fun k hk => ?_
  by_cases hki : k = i
  · subst hki; simp [rAt, hi, hr]
  · simp [rAt, hk, List.getElem_set_ne (Ne.symm hki)]
theorem dec_after {l : List Request} {id : Int} {name : List UInt8} {d s : Int} {may : Request → Int} (h : (dec l id name d s may).2.2 = 0) (hs : s ≠ 1) (name' : List UInt8) (d' s' : Int) (may' : Request → Int) : dec (dec l id name d s may).1 id name' d' s' may' = ([], cz, 17) := by
  rcases dec_cases l id name d s may with ⟨e, he, hd⟩ | ⟨i, hi, hp, hid, h1, _, _, hd⟩
  · rw [hd] at h; exact absurd h he
  · rw [hd]
    unfold dec
    have hr := rpos_set (id := id) (r := { l[i] with state := s, checker := name }) hi rfl
    dsimp only at hr ⊢
    rw [hr, hp]
    simp [hi, st, hs]
theorem chk_set {l : List Request} {i : Nat} {s : Int} {name : List UInt8} (h : chk l = 0) (hi : i < l.length) (h1 : l[i].state = 1) (hn : nameB name = true) (hs : s = 2 ∧ name ≠ l[i].maker ∨ s = 3) : chk (l.set i { l[i] with state := s, checker := name }) = 0 := by
  obtain ⟨hl, hc⟩ := chk_ok h
  refine chk_of (by simpa using hl) fun k hk => ?_
  rw [cd_iff hk]
  simp only [List.length_set] at hk
  have := (cd_iff hk).1 (hc k hk)
  obtain ⟨b1, b2, b3, b4⟩ := this
  by_cases hki : k = i
  · subst hki
    simp only [List.getElem_set_self]
    refine ⟨?_, ?_, fun j hj hjl => ?_, ?_⟩
    · simp only [bad1] at b1 ⊢
      rcases hs with ⟨rfl, _⟩ | rfl <;> simp_all
    · simp only [bad2] at b2 ⊢
      rcases hs with ⟨rfl, _⟩ | rfl <;> simp_all [decided]
    · have := b3 j hj (by omega)
      rw [List.getElem_set_ne (by omega)]
      exact this
    · rcases hs with ⟨rfl, hne⟩ | rfl
      · exact fun h => hne h.2
      · exact fun h => by simp at h
  · simp only [List.getElem_set_ne (Ne.symm hki)]
    refine ⟨b1, b2, fun j hj hjl => ?_, b4⟩
    have hjl' : j < l.length := by omega
    have := b3 j hj hjl'
    by_cases hji : j = i
    · subst hji; simpa using this
    · rw [List.getElem_set_ne (Ne.symm hji)]; exact this
theorem chk_dec {l : List Request} {id : Int} {name : List UInt8} {d s : Int} {may : Request → Int} (h : (dec l id name d s may).2.2 = 0) (hc : chk l = 0) (hn : nameB name = true) (hs : s = 2 ∧ (∀ r, may r = 0 → name ≠ r.maker) ∨ s = 3) : chk (dec l id name d s may).1 = 0 := by
  rcases dec_cases l id name d s may with ⟨e, he, hd⟩ | ⟨i, hi, hp, hid, h1, _, h0, hd⟩
  · rw [hd] at h; exact absurd h he
  · rw [hd]
    refine chk_set hc hi h1 hn ?_
    rcases hs with ⟨rfl, hm⟩ | rfl
    · exact .inl ⟨rfl, hm _ h0⟩
    · exact .inr rfl
theorem chk_expire {l : List Request} {d : Int} (h : chk l = 0) : chk (expire l d) = 0 := by
  obtain ⟨hl, hc⟩ := chk_ok h
  refine chk_of (by simpa [expire] using hl) fun k hk => ?_
  rw [cd_iff hk]
  simp only [expire, List.length_map] at hk
  obtain ⟨b1, b2, b3, b4⟩ := (cd_iff hk).1 (hc k hk)
  have hid : ∀ r, (exd d r).id = r.id := fun r => by unfold exd; split <;> rfl
  simp only [expire, List.getElem_map, hid]
  refine ⟨?_, ?_, fun j hj hjl => b3 j hj (by omega), ?_⟩
  · unfold exd
    split
    · rename_i hx
      simp only [bad1] at b1 ⊢; simp_all
    · exact b1
  · unfold exd
    split
    · rename_i hx
      simp only [bad2] at b2 ⊢; simp_all [decided]
    · exact b2
  · unfold exd
    split
    · simp
    · exact b4
end Go.Proofs.Ythonmlhljdhlbaa
