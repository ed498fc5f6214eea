/-
  The law on what adds up.
-/
import Derived.Test.YtjbnkdlklibomaaDoorLaws3
set_option linter.all false
namespace Go.Proofs.YtjbnkdlklibomaaDoor
open Go.VM
theorem seq_run {o : Orc} {rs : List RV} {a b : C} {env e' : Env} {y : Option V} (h1 : exec o a env = some (.n, e')) (h2 : retE rs (exec o b e') = y) : retE rs (exec o (.seq a b) env) = y := by
  simp only [exec, h1, Option.bind_some]
  exact h2
theorem key_w : ∀ x : Int, ∃ k : Int, w x = x + k * 18446744073709551616 := fun x => by
  simp only [w, IntKind.wrap, IntKind.signed, IntKind.bits, Bool.true_and]
  split
  · exact ⟨-(x / 18446744073709551616) - 1, by omega⟩
  · exact ⟨-(x / 18446744073709551616), by omega⟩
theorem per_w (x k : Int) : w (x + k * 18446744073709551616) = w x := by
  have e : ∀ y : Int, w y = (fun m : Int => if (true && decide (m ≥ 2 ^ 63)) = true then m - 2 ^ 64 else m) (y % 2 ^ 64) := fun y => rfl
  have : (x + k * 18446744073709551616) % 2 ^ 64 = x % 2 ^ 64 := by omega
  rw [e, e, this]
theorem w_w (x : Int) : w (w x) = w x := by
  obtain ⟨k, h⟩ := key_w x
  rw [h, per_w, h]
theorem w_add (x y : Int) : w (w x + y) = w (x + y) := by
  obtain ⟨k, h⟩ := key_w x
  rw [h, show x + k * 18446744073709551616 + y = x + y + k * 18446744073709551616 by omega, per_w]
set_option maxHeartbeats 8000000 in
theorem e6 (l : Loan) (d n : Int) (hd : DayOk l.dues) : O 6 [l.v, .i .i64 d, .i .i64 n] = some (.b true) := by
  refine orun (fc := code6) rfl rfl rfl ?_
  have h7 := e7 l
  cases hf : fewB l with
  | false => rw [hf] at h7; simp [code6, h7, live]
  | true =>
    rw [hf] at h7
    obtain ⟨h1, h2⟩ := not_few hf
    by_cases hr : l.recovered = 0
    · obtain ⟨c, h8⟩ := x8 l h1 hd
      obtain ⟨id, account, state, pp, pi, fee, penalty, charged, provision, loss, recovered', terms, dues, changes⟩ := l
      simp only at hr
      subst hr
      by_cases hc : c = 0
      · subst hc
        have h10 := e10 ⟨id, account, state, pp, pi, fee, penalty, charged, provision, loss, 0, terms, dues, changes⟩ d h1 h2
        unfold writeV at h10
        cases hm : mayWrite ⟨id, account, state, pp, pi, fee, penalty, charged, provision, loss, 0, terms, dues, changes⟩ d with
        | false =>
          rw [if_neg (by simp [hm])] at h10
          have hs0 := no_same
          simp only [Loan.v, encL_nil] at hs0
          simp [code6, h7, h8, h10, hs0, live]
        | true =>
          rw [if_pos hm] at h10
          have h17 := e17 ⟨id, account, state, pp, pi, fee, penalty, charged, provision, loss, 0, terms, dues, changes⟩ h1 hd
          have hF : ∀ x : Loan, x.dues = dues → x.changes = changes → Few [x] := fun x e1 e2 y hy => by
            simp only [List.mem_singleton] at hy; subst hy; rw [e1, e2]; exact ⟨h1, h2⟩
          have hst : state = 1 := by simp [mayWrite] at hm; exact hm.1
          have ht : w (outs ⟨id, account, state, pp, pi, fee, penalty, charged, provision, loss, 0, terms, dues, changes⟩) = outs ⟨id, account, state, pp, pi, fee, penalty, charged, provision, loss, 0, terms, dues, changes⟩ := w_w _
          have h15a : O 15 [.l [Loan.v ⟨id, account, state, pp, pi, fee, penalty, charged, provision, loss, 0, terms, dues, changes⟩]] = some (.i .i64 (outs ⟨id, account, state, pp, pi, fee, penalty, charged, provision, loss, 0, terms, dues, changes⟩)) := by
            refine (e15 [⟨id, account, state, pp, pi, fee, penalty, charged, provision, loss, 0, terms, dues, changes⟩] (by simp) (hF ⟨id, account, state, pp, pi, fee, penalty, charged, provision, loss, 0, terms, dues, changes⟩ rfl rfl)).trans ?_
            simp [expT, expo, hst, ht]
          have h15b : O 15 [.l [(written ⟨id, account, state, pp, pi, fee, penalty, charged, provision, loss, 0, terms, dues, changes⟩).v]] = some (.i .i64 (outs ⟨id, account, state, pp, pi, fee, penalty, charged, provision, loss, 0, terms, dues, changes⟩)) := by
            refine (e15 [written ⟨id, account, state, pp, pi, fee, penalty, charged, provision, loss, 0, terms, dues, changes⟩] (by simp) (hF _ rfl rfl)).trans ?_
            simp [expT, expo, written, ht]
          have h10b : O 10 [(written ⟨id, account, state, pp, pi, fee, penalty, charged, provision, loss, 0, terms, dues, changes⟩).v, .i .i64 d] = some (.t [noLoan.v, .i .i64 0, .i .i64 17]) := by
            rw [e10 (written ⟨id, account, state, pp, pi, fee, penalty, charged, provision, loss, 0, terms, dues, changes⟩) d h1 h2]; simp [writeV, mayWrite, written]
          have h13 := e13 (written ⟨id, account, state, pp, pi, fee, penalty, charged, provision, loss, 0, terms, dues, changes⟩) n d h1 h2
          have hloss : w (lossV ⟨id, account, state, pp, pi, fee, penalty, charged, provision, loss, 0, terms, dues, changes⟩ + provision) = outs ⟨id, account, state, pp, pi, fee, penalty, charged, provision, loss, 0, terms, dues, changes⟩ := by
            unfold lossV; rw [w_add, show outs ⟨id, account, state, pp, pi, fee, penalty, charged, provision, loss, 0, terms, dues, changes⟩ - provision + provision = outs ⟨id, account, state, pp, pi, fee, penalty, charged, provision, loss, 0, terms, dues, changes⟩ by omega, ht]
          have hrec : recE (written ⟨id, account, state, pp, pi, fee, penalty, charged, provision, loss, 0, terms, dues, changes⟩) n d = if n < 1 ∨ 1000000000000 < n ∨ validD d = false then 1 else if outs ⟨id, account, state, pp, pi, fee, penalty, charged, provision, loss, 0, terms, dues, changes⟩ < n then 18 else 0 := by
            simp [recE, written, ht]
          have h15c : O 15 [.l [(recovered (written ⟨id, account, state, pp, pi, fee, penalty, charged, provision, loss, 0, terms, dues, changes⟩) n).v]] = some (.i .i64 (w (outs ⟨id, account, state, pp, pi, fee, penalty, charged, provision, loss, 0, terms, dues, changes⟩ - w n))) := by
            refine (e15 [recovered (written ⟨id, account, state, pp, pi, fee, penalty, charged, provision, loss, 0, terms, dues, changes⟩) n] (by simp) (hF _ rfl rfl)).trans ?_
            simp [expT, expo, recovered, written, w_w]
          unfold recV at h13
          rw [hrec] at h13
          have hx1 : (written ⟨id, account, state, pp, pi, fee, penalty, charged, provision, loss, 0, terms, dues, changes⟩).loss = outs ⟨id, account, state, pp, pi, fee, penalty, charged, provision, loss, 0, terms, dues, changes⟩ := rfl
          have hx2 : (written ⟨id, account, state, pp, pi, fee, penalty, charged, provision, loss, 0, terms, dues, changes⟩).recovered = 0 := rfl
          have hy1 : (recovered (written ⟨id, account, state, pp, pi, fee, penalty, charged, provision, loss, 0, terms, dues, changes⟩) n).loss = outs ⟨id, account, state, pp, pi, fee, penalty, charged, provision, loss, 0, terms, dues, changes⟩ := rfl
          have hy2 : (recovered (written ⟨id, account, state, pp, pi, fee, penalty, charged, provision, loss, 0, terms, dues, changes⟩) n).recovered = w (0 + n) := by simp [recovered, written]
          generalize recovered (written ⟨id, account, state, pp, pi, fee, penalty, charged, provision, loss, 0, terms, dues, changes⟩) n = y at h13 h15c hy1 hy2
          generalize written ⟨id, account, state, pp, pi, fee, penalty, charged, provision, loss, 0, terms, dues, changes⟩ = x at h10 h15b h10b h13 hx1 hx2
          generalize outs ⟨id, account, state, pp, pi, fee, penalty, charged, provision, loss, 0, terms, dues, changes⟩ = t at *
          generalize lossV ⟨id, account, state, pp, pi, fee, penalty, charged, provision, loss, 0, terms, dues, changes⟩ = s at *
          obtain ⟨xid, xaccount, xstate, xpp, xpi, xfee, xpenalty, xcharged, xprovision, xloss, xrecovered, xterms, xdues, xchanges⟩ := x
          obtain ⟨yid, yaccount, ystate, ypp, ypi, yfee, ypenalty, ycharged, yprovision, yloss, yrecovered, yterms, ydues, ychanges⟩ := y
          simp only at hx1 hx2 hy1 hy2
          subst hx1 hx2 hy1 hy2
          simp only [code6]
          refine seq_run (by simp; rfl) ?_
          refine seq_run (by simp [h7, h8]; rfl) ?_
          refine seq_run (by simp [h10]; rfl) ?_
          refine seq_run (by simp; rfl) ?_
          refine seq_run (by simp [h15a]; rfl) ?_
          refine seq_run (by simp [h17, h15b, hloss]; rfl) ?_
          refine seq_run (by simp [h10b]; rfl) ?_
          by_cases hbig : 1000000000000 < yloss
          · simp [hbig, live]
          · refine seq_run (by simp [hbig]; rfl) ?_
            by_cases c1 : n < 1
            · rw [show (if n < 1 ∨ 1000000000000 < n ∨ validD d = false then 1 else if yloss < n then 18 else 0) = (1 : Int) from if_pos (.inl c1), if_neg (by decide)] at h13
              simp [h13, c1, live]
            · by_cases c2 : 1000000000000 < n
              · rw [show (if n < 1 ∨ 1000000000000 < n ∨ validD d = false then 1 else if yloss < n then 18 else 0) = (1 : Int) from if_pos (.inr (.inl c2)), if_neg (by decide)] at h13
                have c3 : yloss < n := by omega
                simp [h13, c1, c3, ht, live]
              · have hn : w n = n := wrap_i64 n (by omega)
                cases hv : validD d with
                | false =>
                  rw [show (if n < 1 ∨ 1000000000000 < n ∨ validD d = false then 1 else if yloss < n then 18 else 0) = (1 : Int) from if_pos (.inr (.inr hv)), if_neg (by decide)] at h13
                  simp only [validD, Bool.and_eq_false_iff, decide_eq_false_iff_not] at hv
                  by_cases c3 : yloss < n
                  · simp [h13, c1, c3, ht, live]
                  · by_cases c4 : d < 0
                    · simp [h13, c1, c3, c4, ht, live]
                    · have c5 : 73048 < d := by omega
                      simp [h13, c1, c3, c4, c5, ht, live]
                | true =>
                  have hno : ¬ (n < 1 ∨ 1000000000000 < n ∨ validD d = false) := by simp [c1, c2, hv]
                  by_cases c3 : yloss < n
                  · rw [show (if n < 1 ∨ 1000000000000 < n ∨ validD d = false then 1 else if yloss < n then 18 else 0) = (18 : Int) by rw [if_neg hno, if_pos c3], if_neg (by decide)] at h13
                    simp [h13, c1, c3, ht, live]
                  · rw [show (if n < 1 ∨ 1000000000000 < n ∨ validD d = false then 1 else if yloss < n then 18 else 0) = (0 : Int) by rw [if_neg hno, if_neg c3], if_pos rfl] at h13
                    have c6 : n ≤ yloss := by omega
                    have hn0 : w (0 + n) = n := by rw [Int.zero_add, hn]
                    rw [hn0] at h13 h15c
                    rw [hn] at h15c
                    simp [h13, h15c, hn, c6, live]
      · simp [code6, h7, h8, hc, live]
    · simp [code6, h7, hr, live]
end Go.Proofs.YtjbnkdlklibomaaDoor
