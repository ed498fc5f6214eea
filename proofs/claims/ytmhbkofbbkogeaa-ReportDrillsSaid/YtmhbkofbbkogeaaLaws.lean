/-
  The laws on rows, owners, cells and the entries behind a row answer yes.
-/
import Derived.Test.YtmhbkofbbkogeaaSpec9
namespace Go.Proofs.Ytmhbkofbbkogeaa
open Go.VM
abbrev X0 : Orc := fun _ _ => none
/-- What the sizes of products ask for. -/
def okBk (b : Books) : Prop := ∀ p ∈ b.products, (∀ f ∈ p.fees, f.okX) ∧ ∀ f ∈ p.rules, f.okX
theorem b7 (b : Books) (hf : okBk b) : ∃ t, OB 7 [b.v] = some (.b t) ∧ (t = false → Fine b ∧ b.currencies.length ≤ 20 ∧ b.journal.length ≤ 150) := by
  obtain ⟨t, h, h'⟩ := e7 (X := X0) b hf
  exact ⟨t, OB_old rfl (by decide) (by decide) h, h'⟩
theorem b8 (l : List Row) : ∃ t, OB 8 [.l (encR l)] = some (.b t) ∧ (t = false → Rows l ∧ l.length ≤ 100) := by
  obtain ⟨t, h, h'⟩ := e8 (X := X0) l
  exact ⟨t, OB_old rfl (by decide) (by decide) h, h'⟩
set_option maxHeartbeats 4000000 in
theorem e3 (b : Books) (l : List Row) (id : Int) (hf : okBk b) (hl : l.length ≤ maxLen) : OB 3 [b.v, .l (encR l), .i .i64 id] = some (.b true) := by
  refine orunB (fc := code3) rfl rfl rfl ?_
  obtain ⟨t7, h7, f7⟩ := b7 b hf
  cases t7 with
  | true => simp [code3, h7]
  | false =>
    obtain ⟨t8, h8, f8⟩ := b8 l
    cases t8 with
    | true => simp [code3, h7, h8]
    | false =>
      obtain ⟨hb, _⟩ := f7 rfl
      obtain ⟨hr, _⟩ := f8 rfl
      have h9 := OB_old rfl (by decide) (by decide) (e9 (X := X0) b l hb.chart hr hl)
      have h10 := OB_old rfl (by decide) (by decide) (e10 (X := X0) b l hb.chart hr hl)
      have h11 := OB_old rfl (by decide) (by decide) (e11 (X := X0) b id hb)
      have h12 := OB_old rfl (by decide) (by decide) (e12 (X := X0) b id hb)
      have h13 := live
      generalize chk b l = c at h9 h10
      generalize owner b id = w at h11 h12
      simp [code3, h7, h8, h9, h10, h11, h12, h13]
set_option maxHeartbeats 4000000 in
theorem e4 (b : Books) (l : List Row) (bk : Int) (hf : okBk b) (hl : l.length ≤ maxLen) : OB 4 [b.v, .l (encR l), .i .i64 bk] = some (.b true) := by
  refine orunB (fc := code4) rfl rfl rfl ?_
  obtain ⟨t7, h7, f7⟩ := b7 b hf
  cases t7 with
  | true => simp [code4, h7]
  | false =>
    obtain ⟨t8, h8, f8⟩ := b8 l
    cases t8 with
    | true => simp [code4, h7, h8]
    | false =>
      obtain ⟨hb, hc, _⟩ := f7 rfl
      obtain ⟨hr, h100⟩ := f8 rfl
      have h14 := b14 b l bk hb hr hl
      have h15 := OB_old rfl (by decide) (by decide) (e15 (X := X0) b l bk hb hr hl)
      have h13 := live
      have n1 : (10 : Int) < (l.length : Int) ↔ 10 < l.length := by omega
      have n2 : (l.length : Int) ≤ 64 ↔ l.length ≤ 64 := by omega
      have hlen : (cellsOfL b l bk).length ≤ 1000000 := by
        rw [cellsOfL_len]
        have : l.length * b.currencies.length ≤ 100 * 20 := Nat.mul_le_mul h100 hc
        omega
      have h16 := OB_old rfl (by decide) (by decide) (e16 (X := X0) (cellsOfL b l bk) hlen)
      have h16' := OB_old rfl (by decide) (by decide) (e16 (X := X0) [] (by decide))
      unfold makeW at h14
      unfold makeV at h15
      simp at h16'
      by_cases g1 : 10 < l.length ∧ l.length ≤ 64
      · simp [code4, h7, h8, n1, n2, g1.1, g1.2]
      · have g1' : 10 < l.length → l.length ≤ 64 → False := fun a b => g1 ⟨a, b⟩
        have main : ∀ (c d : V) (e : Int), OB 14 [b.v, .l (encR l), .i .i64 bk] = some (.t [c, .i .i64 e]) → OB 15 [b.v, .l (encR l), .i .i64 bk] = some (.t [d, .i .i64 e]) → (∃ es, c = .l es ∧ d = .ow 58 es ∧ OB 16 [.l es, .l es] = some (.b true)) → retE code4.res (exec OB code4.body (args0 0 [b.v, .l (encR l), .i .i64 bk])) = some (.b true) := by
          rintro c d e q14 q15 ⟨es, rfl, rfl, q16⟩
          by_cases g2 : 10 < l.length
          · have g3 : ¬ l.length ≤ 64 := fun h => g1' g2 h
            simp [code4, h7, h8, n1, n2, g2, g3, q14, q15, q16, h13]
          · simp [code4, h7, h8, n1, g2, q14, q15, q16, h13]
        split at h14
        · rename_i h0
          rw [if_pos h0] at h15
          cases hq : (List.range l.length).findSome? (rowBad b l bk) with
          | none => rw [hq] at h14 h15; exact main _ _ _ h14 h15 ⟨_, rfl, rfl, h16⟩
          | some u => rw [hq] at h14 h15; exact main _ _ _ h14 h15 ⟨_, rfl, rfl, h16'⟩
        · rename_i h0
          rw [if_neg h0] at h15
          exact main _ _ _ h14 h15 ⟨_, rfl, rfl, h16'⟩
theorem drill_len (b : Books) (r : Row) (c : List UInt8) (bk : Int) : (drill b r c bk).length ≤ b.journal.length := dS_len b r c bk b.journal
set_option maxHeartbeats 4000000 in
theorem e5 (b : Books) (r : Row) (q : Query) (hf : okBk b) (hn : r.name.length ≤ maxLen) : OB 5 [b.v, r.v, q.v] = some (.b true) := by
  refine orunB (fc := code5) rfl rfl rfl ?_
  obtain ⟨t7, h7, f7⟩ := b7 b hf
  cases t7 with
  | true => simp [code5, h7]
  | false =>
    obtain ⟨t8, h8, f8⟩ := b8 [r]
    rw [enc_one] at h8
    cases t8 with
    | true => simp [code5, h7, h8]
    | false =>
      obtain ⟨hb, hc, hj⟩ := f7 rfl
      obtain ⟨hr, _⟩ := f8 rfl
      have hrt : r.roots.length ≤ 1000 := hr.roots r (List.mem_singleton.2 rfl)
      have h13 := live
      by_cases g1 : 100 < q.currency.length
      · have g1' : (100 : Int) < (q.currency.length : Int) := by omega
        simp [code5, h7, h8, g1']
      · have g1' : ¬ (100 : Int) < (q.currency.length : Int) := by omega
        have h17 := b17 b r q.currency q.booked hb hrt hn
        have h18 := OB_old rfl (by decide) (by decide) (e18 (X := X0) b r q.currency q.booked hb hrt hn)
        have h20 := OB_old rfl (by decide) (by decide) (e20 (X := X0) b r q.currency q.id hb hrt hn)
        have h21 := OB_old rfl (by decide) (by decide) (e21 (X := X0) b r q.currency q.id hb hrt hn)
        have hdl := drill_len b r q.currency q.booked
        have h19 := OB_old rfl (by decide) (by decide) (e19 (X := X0) (drill b r q.currency q.booked) (by omega))
        have h19' := OB_old rfl (by decide) (by decide) (e19 (X := X0) [] (by decide))
        simp at h19'
        generalize amtId b r q.currency q.id = n at h20 h21
        unfold drillW at h17
        unfold drillV at h18
        have main : ∀ (c d : V) (e : Int), OB 17 [b.v, r.v, .s q.currency, .i .i64 q.booked] = some (.t [c, .i .i64 e]) → OB 18 [b.v, r.v, .s q.currency, .i .i64 q.booked] = some (.t [d, .i .i64 e]) → (∃ es, c = .l es ∧ d = .ow 3 es ∧ OB 19 [.l es, .l es] = some (.b true)) → retE code5.res (exec OB code5.body (args0 0 [b.v, r.v, q.v])) = some (.b true) := by
          rintro c d e q14 q15 ⟨es, rfl, rfl, q16⟩
          simp [code5, h7, h8, g1', q14, q15, q16, h13, h20, h21]
        split at h17
        · rename_i h0
          rw [if_pos h0] at h18
          split at h17
          · rename_i h1
            rw [if_pos h1] at h18
            exact main _ _ _ h17 h18 ⟨_, rfl, rfl, h19⟩
          · rename_i h1
            rw [if_neg h1] at h18
            exact main _ _ _ h17 h18 ⟨_, rfl, rfl, h19'⟩
        · rename_i h0
          rw [if_neg h0] at h18
          exact main _ _ _ h17 h18 ⟨_, rfl, rfl, h19'⟩
end Go.Proofs.Ytmhbkofbbkogeaa
