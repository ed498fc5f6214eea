/-
  The law on presenting, over what the functions compute.
-/
import Derived.Test.YtoahbbpjhdegoaaDoorLaws2
namespace Go.Proofs.YtoahbbpjhdegoaaDoor
open Go.VM
theorem ready_day {x : Debit} {day : Int} (h : ready x day = true) : validD x.day = true ∧ presented x = true ∧ (1 ≤ x.id ∧ amount x.amount = true ∧ keyOk x.key = true) := by
  unfold ready at h
  simp only [Bool.and_eq_true, decide_eq_true_eq] at h
  exact ⟨h.2.2.1, h.2.2.2.2.1, h.1, h.2.1, h.2.2.2.2.2⟩
theorem good_ready {x : Debit} {day : Int} (h : ready x day = true) (hm : 1 ≤ x.mandate) : goodB x = true := by
  obtain ⟨h1, h2, h3, h4, h5⟩ := ready_day h
  have hf : fits x = true := by
    unfold presented at h2
    simp only [Bool.and_eq_true, decide_eq_true_eq] at h2
    unfold fits
    rw [if_pos h2.1.1.1]
    simp [h2.1.1.2, h2.1.2, h2.2]
  simp [goodB, h1, h3, h4, h5, hf, hm]
/-- What was presented once is not presented again. -/
theorem presE_again {l : List Debit} {ms : List Mandate} {x : Debit} {day : Int} (h : presE l ms x day = 0) : presE (l ++ [x]) ms x day = 10 := by
  obtain ⟨h1, _, _, _⟩ := presE_zero h
  have hs : (above (l ++ [x]) x).isSome = true := by
    cases hq : above (l ++ [x]) x with
    | some j => rfl
    | none =>
      have := above_all hq l.length (by simp)
      simp at this
  unfold presE
  rw [if_neg (by rw [h1]; simp), if_pos hs]
theorem due_append (l : List Debit) (x : Debit) (d : Int) : due (l ++ [x]) d = due l d ++ if isDue d x = true then [x] else [] := by
  unfold due
  rw [List.filter_append]
  congr 1
  cases hq : isDue d x <;> simp [hq]
theorem due_mono (l : List Debit) (d : Int) : (due l (d - 1)).length ≤ (due l d).length := by
  induction l with
  | nil => simp [due]
  | cons x l ih =>
    unfold due at ih ⊢
    rw [List.filter_cons, List.filter_cons]
    have : isDue (d - 1) x = true → isDue d x = true := by
      unfold isDue
      simp only [Bool.and_eq_true, decide_eq_true_eq]
      exact fun h => ⟨h.1, by omega⟩
    cases h1 : isDue (d - 1) x
    · cases h2 : isDue d x
      · simpa using ih
      · simp only [Bool.false_eq_true, if_false, if_true, List.length_cons]; omega
    · rw [this h1]; simpa using ih
set_option maxHeartbeats 32000000 in
theorem e8 (l : List Debit) (ms : List Mandate) (x : Debit) (day : Int) (hk : KOk l) (hx : x.key.length ≤ maxLen) : O 8 [.l (enc l), .l (encM ms), Ask.v ⟨x, day⟩] = some (.b true) := by
  refine orun (fc := code8) rfl rfl rfl ?_
  have h9 := e9 l
  by_cases h : l.length ≤ 80
  · by_cases hm : ms.length ≤ 80
    · have hm' : ¬ (80 : Int) < (ms.length : Int) := by omega
      by_cases hx1 : x.mandate < 1
      · simp [code8, h9, h, hm', hx1, live]
      · have h16 := e16 l ms x day (by omega) (by omega) hx
        simp only [presV] at h16
        by_cases hp : presE l ms x day = 0
        · obtain ⟨q1, q2, q3, q4⟩ := presE_zero hp
          obtain ⟨v1, v2, _⟩ := ready_day q1
          have hst : x.state = 1 := by
            unfold presented at v2
            simp only [Bool.and_eq_true, decide_eq_true_eq] at v2
            exact v2.1.1.1
          have hkk : KOk (l ++ [x]) := by
            intro y hy
            rcases List.mem_append.1 hy with hy | hy
            · exact hk y hy
            · rw [List.mem_singleton.1 hy]; exact hx
          have h11 := e11 l hk
          have h11k := e11 (l ++ [x]) hkk
          have hck : chk l = 0 → chk (l ++ [x]) = 0 := fun h0 => chk_append h0 q4 (above_all q2) q3 (good_ready q1 (by omega))
          have h16k := e16 (l ++ [x]) ms x day (by simp; omega) (by omega) hx
          simp only [presV, presE_again hp] at h16k
          rw [if_pos hp] at h16
          have h14 := e14 (l ++ [x]) x.day (by simp; omega)
          have h14p := e14 (l ++ [x]) (x.day - 1) (by simp; omega)
          have hi1 : isDue x.day x = true := by simp [isDue, hst]
          have hi2 : isDue (x.day - 1) x = false := by simp [isDue]; omega
          rw [due_append, if_pos hi1] at h14
          rw [due_append, if_neg (by rw [hi2]; simp), List.append_nil] at h14p
          have hmono := due_mono l x.day
          have hwd : IntKind.i64.wrap (x.day - 1) = x.day - 1 := by
            simp only [validD, Bool.and_eq_true, decide_eq_true_eq] at v1
            exact wrap_i64 _ (by omega)
          have hwl : IntKind.i64.wrap ((l.length : Int) + 1) = (l.length : Int) + 1 := wrap_i64 _ (by omega)
          have hdl := due_len l x.day
          have hsl := slc_take (l ++ [x]) l.length (by simp)
          rw [List.take_left' rfl] at hsl
          have h13 := e13 l (by omega)
          have hklen : (l ++ [x]).length = l.length + 1 := by simp
          have hkl0 : (l ++ [x])[l.length]? = some x := by simp
          generalize hk' : l ++ [x] = k at *
          have hklt : l.length < k.length := by omega
          have hkl : k[l.length] = x := by rw [List.getElem?_eq_getElem hklt] at hkl0; exact Option.some.inj hkl0
          generalize hu' : due l x.day = u at *
          generalize hu2' : due l (x.day - 1) = u2 at *
          have hul : ((u ++ [x]).length : Int) = (u.length : Int) + 1 := by simp
          have hul0 : (u ++ [x])[u.length]? = some x := by simp
          have hunat : (u ++ [x]).length = u.length + 1 := by simp
          generalize hw' : u ++ [x] = w at *
          have hult : u.length < w.length := by omega
          have hulk : w[u.length] = x := by rw [List.getElem?_eq_getElem hult] at hul0; exact Option.some.inj hul0
          have hwu2 : IntKind.i64.wrap (u.length : Int) = (u.length : Int) := wrap_i64 _ (by omega)
          simp only [code8]
          refine seq_run (by simp; rfl) ?_
          refine seq_run (by simp [h9, h, hm', hx1]; rfl) ?_
          refine seq_run (by simp [h16]; rfl) ?_
          refine seq_run (by simp; rfl) ?_
          refine seq_run (by simp; rfl) ?_
          have hcc : ((chk l = 0) ∧ chk k ≠ 0) = False := by simp; exact hck
          by_cases hc0 : chk l = 0
          · rw [hc0] at h11
            rw [hck hc0] at h11k
            refine seq_run (by simp [hklen, hwl, hsl, h13, hkl, h11, h11k]; rfl) ?_
            refine seq_run (by simp [h16k]; rfl) ?_
            refine seq_run (by simp [h14]; rfl) ?_
            simp [hwd, h14p, live, hul, hwu2, hulk, hult]
            omega
          · refine seq_run (by simp [hklen, hwl, hsl, h13, hkl, h11, hc0]; rfl) ?_
            refine seq_run (by simp [h16k]; rfl) ?_
            refine seq_run (by simp [h14]; rfl) ?_
            simp [hwd, h14p, live, hul, hwu2, hulk, hult]
            omega
        · rw [if_neg hp] at h16
          simp only [code8]
          refine seq_run (by simp; rfl) ?_
          refine seq_run (by simp [h9, h, hm', hx1]; rfl) ?_
          refine seq_run (by simp [h16]; rfl) ?_
          simp [hp, live]
    · have hm' : (80 : Int) < (ms.length : Int) := by omega
      simp [code8, h9, h, hm', live]
  · simp [code8, h9, h, live]
end Go.Proofs.YtoahbbpjhdegoaaDoor
