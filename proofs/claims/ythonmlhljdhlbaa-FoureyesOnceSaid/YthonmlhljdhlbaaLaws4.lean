/-
  The law on deciding once, over what the functions compute.
-/
import Derived.Test.YthonmlhljdhlbaaLaws2
namespace Go.Proofs.Ythonmlhljdhlbaa
open Go.VM
theorem seq_run {o : Orc} {rs : List RV} {a b : C} {env e' : Env} {y : Option V} (h1 : exec o a env = some (.n, e')) (h2 : retE rs (exec o b e') = y) : retE rs (exec o (.seq a b) env) = y := by
  simp only [exec, h1, Option.bind_some]
  exact h2
theorem flats_cz : V.flats cz.cells = true := by rw [cz_cells]; simp
set_option maxHeartbeats 16000000 in
theorem e8 (l : List Request) (us : List User) (id : Int) (name : List UInt8) (d : Int) : O 8 [.l (enc l), .l (encU us), .a [.i .i64 id, .s name, .i .i64 d]] = some (.b true) := by
  refine orun (fc := code8) rfl rfl rfl ?_
  cases hg : great l with
  | true => simp [code8, hg, live]
  | false =>
    cases hu : ugreat us with
    | true => simp [code8, hg, hu, live]
    | false =>
      by_cases hn : (100 : Int) < (name.length : Int)
      · simp [code8, hg, hu, hn, live]
      · by_cases hc : chk l = 0
        · obtain ⟨hlen, hf⟩ := not_great hg
          have hul := ugreat_len hu
          have h17 := e17 l us id name d hlen hf hul
          have h19 := e19 l us id name d hlen hf hul
          obtain ⟨a1, a2, _⟩ := dec_small l id name d 2 (mayA us name) hlen hf
          obtain ⟨b1, b2, _⟩ := dec_small l id name d 3 (mayR us name) hlen hf
          have p17 := e17 (approve l us id name d).1 us id name d a1 a2 hul
          have p19 := e19 (approve l us id name d).1 us id name d a1 a2 hul
          have q17 := e17 (reject l us id name d).1 us id name d b1 b2 hul
          have q19 := e19 (reject l us id name d).1 us id name d b1 b2 hul
          have hA : (approve l us id name d).2.2 = 0 → approve (approve l us id name d).1 us id name d = ([], cz, 17) ∧ reject (approve l us id name d).1 us id name d = ([], cz, 17) := fun h => ⟨dec_after h (by decide) _ _ _ _, dec_after h (by decide) _ _ _ _⟩
          have hR : (reject l us id name d).2.2 = 0 → approve (reject l us id name d).1 us id name d = ([], cz, 17) ∧ reject (reject l us id name d).1 us id name d = ([], cz, 17) := fun h => ⟨dec_after h (by decide) _ _ _ _, dec_after h (by decide) _ _ _ _⟩
          have hK : (reject l us id name d).2.2 = 0 → nameB name = true → chk (reject l us id name d).1 = 0 := fun h hb => chk_dec h hc hb (.inr rfl)
          have hX := e10 (expire l d)
          rw [chk_expire hc] at hX
          have h26 := e26 l d hlen hf
          unfold decV at h17 p17 q17
          generalize expire l d = x at *
          generalize hp : approve l us id name d = p at *
          generalize hq : reject l us id name d = q at *
          by_cases c1 : p.2.2 = 0
          · rw [(hA c1).1] at p17; rw [(hA c1).2] at p19
            by_cases c2 : q.2.2 = 0
            · rw [(hR c2).1] at q17; rw [(hR c2).2] at q19
              cases hb : nameB name with
              | true =>
                have h10 := e10 q.1
                rw [hK c2 hb] at h10
                simp only [code8]
                refine seq_run (by simp; rfl) ?_
                refine seq_run (by simp [hg, hu, hn, e11 l, hc]; rfl) ?_
                refine seq_run (by simp [h17, flats_cz]; rfl) ?_
                refine seq_run (by simp [h19, flats_cz]; rfl) ?_
                refine seq_run (by simp [c1, p17, p19, flats_cz]; rfl) ?_
                refine seq_run (by simp [c2, q17, q19, hb, h10, flats_cz]; rfl) ?_
                simp [h26, hX, live]
              | false =>
                simp only [code8]
                refine seq_run (by simp; rfl) ?_
                refine seq_run (by simp [hg, hu, hn, e11 l, hc]; rfl) ?_
                refine seq_run (by simp [h17, flats_cz]; rfl) ?_
                refine seq_run (by simp [h19, flats_cz]; rfl) ?_
                refine seq_run (by simp [c1, p17, p19, flats_cz]; rfl) ?_
                refine seq_run (by simp [c2, q17, q19, hb, flats_cz]; rfl) ?_
                simp [h26, hX, live]
            · simp [code8, hg, hu, hn, e11 l, flats_cz, hc, h17, h19, p17, p19, c1, c2, h26, hX, live]
          · by_cases c2 : q.2.2 = 0
            · rw [(hR c2).1] at q17; rw [(hR c2).2] at q19
              cases hb : nameB name with
              | true =>
                have h10 := e10 q.1
                rw [hK c2 hb] at h10
                simp [code8, hg, hu, hn, e11 l, flats_cz, hc, h17, h19, q17, q19, c1, c2, h26, hX, hb, h10, live]
              | false => simp [code8, hg, hu, hn, e11 l, flats_cz, hc, h17, h19, q17, q19, c1, c2, h26, hX, hb, live]
            · simp [code8, hg, hu, hn, e11 l, flats_cz, hc, h17, h19, c1, c2, h26, hX, live]
        · simp [code8, hg, hu, hn, e11 l, flats_cz, hc, live]
end Go.Proofs.Ythonmlhljdhlbaa
