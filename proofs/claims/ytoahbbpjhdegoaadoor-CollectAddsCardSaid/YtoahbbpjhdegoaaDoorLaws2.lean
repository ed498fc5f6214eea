/-
  The law on settling once, over what the functions compute.
-/
import Derived.Test.YtoahbbpjhdegoaaDoorLaws
import Derived.Test.YtoahbbpjhdegoaaDoorPlain
namespace Go.Proofs.YtoahbbpjhdegoaaDoor
open Go.VM
@[simp] theorem flats_enc (l : List Debit) : V.flats (enc l) = true := encL_flats fun x => by simp
theorem seq_run {o : Orc} {rs : List RV} {a b : C} {env e' : Env} {y : Option V} (h1 : exec o a env = some (.n, e')) (h2 : retE rs (exec o b e') = y) : retE rs (exec o (.seq a b) env) = y := by
  simp only [exec, h1, Option.bind_some]
  exact h2
theorem settled_id (x : Debit) (d e : Int) : (settledD x d e).id = x.id := by unfold settledD; split <;> rfl
theorem settled_key (x : Debit) (d e : Int) : (settledD x d e).key = x.key := by unfold settledD; split <;> rfl
theorem settled_amount (x : Debit) (d e : Int) : (settledD x d e).amount = x.amount := by unfold settledD; split <;> rfl
theorem settled_mandate (x : Debit) (d e : Int) : (settledD x d e).mandate = x.mandate := by unfold settledD; split <;> rfl
theorem settled_day (x : Debit) (d e : Int) : (settledD x d e).day = x.day := by unfold settledD; split <;> rfl
theorem settled_state (x : Debit) (d e : Int) : (settledD x d e).state ≠ 1 ∧ ((settledD x d e).state = 2 ↔ e = 0) := by
  unfold settledD
  by_cases h : e = 0
  · rw [if_pos h]; simp [h]
  · rw [if_neg h]; simp [h]
set_option maxHeartbeats 32000000 in
theorem e7 (l : List Debit) (id r d e late : Int) (hk : KOk l) : O 7 [.l (enc l), Act.v ⟨id, r, d, e⟩, .i .i64 late] = some (.b true) := by
  refine orun (fc := code7) rfl rfl rfl ?_
  have h9 := e9 l
  by_cases h : l.length ≤ 80
  · by_cases hc : chk l = 0
    · have h11 := e11 l hk
      rw [hc] at h11
      have h22 := e22 l id d e (by omega)
      by_cases hs : (setP l id d e).2 = 0
      · obtain ⟨i, hi, hp, hid, hst, hd, hE⟩ := setP_ok hs
        rw [hE] at h22
        have hne := settled_state l[i] d e
        have hgo := good_settled (e := e) (good_at hc hi) hst hd
        have hn := near_set (id := id) hi hid (settled_id l[i] d e) (settled_amount _ d e) (settled_key _ d e) (settled_mandate _ d e) (settled_day _ d e)
        have hcs := chk_set hi (settled_id l[i] d e) (settled_key _ d e) hgo hc
        have hks := kok_set hi (settled_key l[i] d e) hk
        have hps := (pos_set hi (settled_id l[i] d e) id).trans hp
        have hlr := retP_state (r := r) (d := late) hi hp (by omega)
        have hlen : (l.set i (settledD l[i] d e)).length = l.length := List.length_set
        have hsi : i < (l.set i (settledD l[i] d e)).length := by omega
        have hgi : (l.set i (settledD l[i] d e))[i] = settledD l[i] d e := List.getElem_set_self _
        generalize hs' : l.set i (settledD l[i] d e) = s at *
        generalize hy' : settledD l[i] d e = y at *
        have h26 := e26 l s id (by omega) hn
        have h11s := e11 s hks
        rw [hcs] at h11s
        have h22s := e22 s id d 0 (by omega)
        rw [setP_state hsi hps (by rw [hgi]; exact hne.1)] at h22s
        have h24l := e24 l id r late (by omega)
        rw [hlr] at h24l
        have h24s := e24 s id r late (by omega)
        simp only [resV'] at h22 h22s h24l h24s
        by_cases hr : (retP s id r late).2 = 0
        · obtain ⟨j, hj, hjp, hjid, hjst, hc1, hc2, hjE⟩ := retP_ok hr
          have hij : j = i := Option.some.inj (hjp.symm.trans hps)
          subst hij
          rw [hgi] at hjst
          have he0 := hne.2.1 hjst
          have hgo2 := good_returned (r := r) (d := late) (good_at hcs hj) (by rw [hgi]; exact hjst) hc1 hc2
          have hn2 := near_set (y := returnedD s[j] r late) (id := id) hj hjid rfl rfl rfl rfl rfl
          have hc2s := chk_set (y := returnedD s[j] r late) hj rfl rfl hgo2 hcs
          have hk2 := kok_set (y := returnedD s[j] r late) hj rfl hks
          have hp2 := (pos_set (y := returnedD s[j] r late) hj rfl id).trans hps
          have hlen2 : (s.set j (returnedD s[j] r late)).length = s.length := List.length_set
          have hj2 : j < (s.set j (returnedD s[j] r late)).length := by omega
          have hst2 : ((s.set j (returnedD s[j] r late))[j]'hj2).state = 3 := by rw [List.getElem_set_self]; rfl
          rw [hjE] at h24s
          generalize hq' : s.set j (returnedD s[j] r late) = q at *
          have h24q := e24 q id r late (by omega)
          have h22q := e22 q id d 0 (by omega)
          rw [retP_state hj2 hp2 (by rw [hst2]; omega)] at h24q
          rw [setP_state hj2 hp2 (by rw [hst2]; omega)] at h22q
          have h26q := e26 s q id (by omega) hn2
          have h11q := e11 q hk2
          rw [hc2s] at h11q
          simp only [resV'] at h22q h24q
          subst he0
          simp only [code7]
          refine seq_run (by simp; rfl) ?_
          refine seq_run (by simp [h9, h, h11]; rfl) ?_
          refine seq_run (by simp [h22]; rfl) ?_
          refine seq_run (by simp; rfl) ?_
          refine seq_run (by simp [h22s]; rfl) ?_
          refine seq_run (by simp [h26, h11s]; rfl) ?_
          refine seq_run (by simp [h24s]; rfl) ?_
          refine seq_run (by simp [h24l]; rfl) ?_
          refine seq_run (by simp; rfl) ?_
          refine seq_run (by simp [h24q]; rfl) ?_
          refine seq_run (by simp [h22q]; rfl) ?_
          simp [h26q, h11q, live]
        · have hb := retP_bad hr
          have hx : e = 0 ∨ (retP s id r late).2 = 17 := by
            by_cases he : e = 0
            · exact .inl he
            · rw [retP_state hsi hps (by rw [hgi]; exact fun h2 => he (hne.2.1 h2))]; exact .inr rfl
          generalize retP s id r late = p at *
          obtain ⟨p1, p2⟩ := p
          simp only at hb hr hx h24s
          subst hb
          simp only [code7]
          refine seq_run (by simp; rfl) ?_
          refine seq_run (by simp [h9, h, h11]; rfl) ?_
          refine seq_run (by simp [h22]; rfl) ?_
          refine seq_run (by simp; rfl) ?_
          refine seq_run (by simp [h22s]; rfl) ?_
          refine seq_run (by simp [h26, h11s]; rfl) ?_
          refine seq_run (by simp [h24s]; rfl) ?_
          refine seq_run (by simp [h24l]; rfl) ?_
          rcases hx with rfl | rfl
          · simp [hr, live]
          · by_cases he : e = 0 <;> simp [he, live]
      · have hb := setP_bad hs
        generalize setP l id d e = p at *
        obtain ⟨p1, p2⟩ := p
        simp only at hb hs
        subst hb
        simp only [resV'] at h22
        simp only [code7]
        refine seq_run (by simp; rfl) ?_
        refine seq_run (by simp [h9, h, h11]; rfl) ?_
        refine seq_run (by simp [h22]; rfl) ?_
        simp [hs, live]
    · have h11 := e11 l hk
      simp [code7, h9, h, h11, hc, live]
  · simp [code7, h9, h, live]
end Go.Proofs.YtoahbbpjhdegoaaDoor
