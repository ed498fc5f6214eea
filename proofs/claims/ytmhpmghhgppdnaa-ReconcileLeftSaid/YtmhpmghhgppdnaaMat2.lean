/-
  Matching items: the contract of Match.
-/
import Derived.Test.YtmhpmghhgppdnaaMat
namespace Go.Proofs.Ytmhpmghhgppdnaa
open Go.VM Go.RowKit
theorem getM_putM {g g' : Nat} {ks vs : List V} (h : g' ≠ g) : ∀ s : Maps, getM g' (putM g ks vs s) = getM g' s
  | [] => rfl
  | p :: s => by
    simp only [putM]
    split
    · rename_i hp
      simp only [getM]
      rw [if_neg (fun e => h e.symm), if_neg (by rw [hp]; exact fun e => h e.symm)]
    · simp only [getM, getM_putM h s]
theorem TabOK.take {its : List Item} {g1 g2 g3 : Nat} {tak : List Int} {s : Maps} (h : TabOK its g1 g2 g3 tak s) (k : Int) : TabOK its g1 g2 g3 (tak ++ [k]) (putM g3 (ints (tak ++ [k])) (trues (tak ++ [k])) s) :=
  ⟨by rw [getM_putM h.ne.1]; exact h.one, by rw [getM_putM h.ne.2]; exact h.two, isSet_put h.set, h.ne⟩
theorem mut30 : mutOf 30 = ⟨38, false, false, sortTRun, 0⟩ := rfl
theorem toTris_enc : ∀ l : List Tri, toTris (encL triV l) = some l
  | [] => rfl
  | x :: l => by
    rw [encL_cons]
    have := toTris_enc l
    obtain ⟨a, b, c⟩ := x
    simp only [triV, toTris, this, Option.map_some]
theorem sortTRun_enc (l : List Tri) (h1 : l.length ≤ 1000000) (h2 : strictT (isortT l) = true) : sortTRun (encL triV l) [.f (.func 31) [] []] = some (encL triV (isortT l)) := by
  simp only [sortTRun, toTris_enc, Option.bind_some, h1, h2, and_self, if_true]
  rfl
theorem step3_len (ours theirs : List Item) (pass : Int) (st : St3) (i : Nat) : (step3 ours theirs pass st i).out.length ≤ st.out.length + 1 := by
  unfold step3
  split
  · omega
  · split
    · omega
    · split <;> simp
section
variable (ours theirs : List Item) (g1 g2 g3 : Nat)
theorem inner {K : Ex → Env → Maps → Prop} (ho : ours.length ≤ 4096) (hl : theirs.length ≤ 4096) (hdo : daysOk ours) (hdt : daysOk theirs) (pass : Int) (st : St3) {s : Maps} (hT : TabOK theirs g1 g2 g3 st.tak s) (hb : st.out.length ≤ 100000) {env : Env} (henv : keepE [0, 1, 7, 8, 9, 10, 36, 37, 38] env = EM ours theirs g1 g2 g3 pass st 0)
    (hK : ∀ s', TabOK theirs g1 g2 g3 (pass3 ours theirs pass st).tak s' → (pass3 ours theirs pass st).out.length ≤ st.out.length + ours.length → K (.e 2) [(0, .l (items ours)), (1, .l (items theirs)), (7, tab3 theirs g1 g2 g3), (8, .mp (ints (pass3 ours theirs pass st).met) (trues (pass3 ours theirs pass st).met)), (9, .ow 38 (encL triV (pass3 ours theirs pass st).out)), (10, .i .i64 pass)] s') :
    WG (mapsR Try.prog cfM) addM Try.prog O0 (.loop [0, 1, 7, 8, 9, 10, 36, 37, 38] n11_15) env s K := by
  refine WG.loop (fun n env s' => ∃ i st', n = ours.length - i ∧ i ≤ ours.length ∧ TabOK theirs g1 g2 g3 st'.tak s' ∧ keepE [0, 1, 7, 8, 9, 10, 36, 37, 38] env = EM ours theirs g1 g2 g3 pass st' i ∧ st' = (List.range i).foldl (step3 ours theirs pass) st ∧ st'.out.length ≤ st.out.length + i) ?_ (n := ours.length) (env := _) (s := s) ⟨0, st, by omega, by omega, hT, henv, rfl, by omega⟩
  rintro n env s' ⟨i, st', rfl, hi, hT', henv', hst, hlen⟩
  rw [henv']
  by_cases hil : i < ours.length
  · refine WG.seqC (m8 ours theirs g1 g2 g3 pass st' hil) (WG.seqC (m9 ours theirs g1 g2 g3 pass st' i) (WG.seq' (WG.blk' (WG.seqC (m10 ours theirs g1 g2 g3 pass st' hil) ?_))))
    have hstep : step3 ours theirs pass st' i = (List.range (i + 1)).foldl (step3 ours theirs pass) st := by
      rw [List.range_succ, List.foldl_append, ← hst]; rfl
    have hx : ours[i]? = some ours[i] := List.getElem?_eq_getElem hil
    have hsl := step3_len ours theirs pass st' i
    cases hc : st'.met.contains (i : Int) with
    | true =>
      refine WG.seqX (m11a ours theirs g1 g2 g3 pass st' ours[i] i hc) (by simp) ?_
      simp only [↓reduceIte]
      refine WG.endC (m14' ours theirs g1 g2 g3 pass st' i (by omega)) ?_
      have hs : step3 ours theirs pass st' i = st' := by unfold step3; rw [hx]; simp only [hc, if_true]
      exact ⟨ours.length - (i + 1), by omega, i + 1, st', rfl, hil, hT', by simp, by rw [← hstep, hs], by omega⟩
    | false =>
      refine WG.seqC (m11b ours theirs g1 g2 g3 pass st' ours[i] i hc) ?_
      have ha : A29.ok ⟨theirs, g1, g2, g3, ours[i], pass, st'.tak⟩ s' [tab3 theirs g1 g2 g3, ours[i].v, .i .i64 pass] := ⟨rfl, hT', by show theirs.length ≤ 100000; omega, hdo _ (List.getElem_mem hil), hdt⟩
      have hcf := cfM_29 _ ha
      simp only at hcf
      obtain ⟨env1, h12, d12⟩ := m12 ours theirs g1 g2 g3 pass st' ours[i] i _ hcf
      refine WG.seqL h12 ?_
      rw [d12]
      cases hr : matchP theirs st'.tak ours[i] pass with
      | none =>
        rw [hr] at hcf
        obtain ⟨env2, h14, d14⟩ := m14 ours theirs g1 g2 g3 pass st' ours[i] i none false (by omega)
        have hs : step3 ours theirs pass st' i = st' := by unfold step3; rw [hx]; simp only [hc, hr]; rfl
        refine WG.endC (m13a ours theirs g1 g2 g3 pass st' ours[i] i) ?_
        refine WG.endC h14 ?_
        exact ⟨ours.length - (i + 1), by omega, i + 1, st', rfl, hil, hT', d14, by rw [← hstep, hs], by omega⟩
      | some k =>
        obtain ⟨env2, h14, d14⟩ := m14 ours theirs g1 g2 g3 pass ⟨st'.met ++ [(i : Int)], st'.tak ++ [k], st'.out ++ [((i : Int), k, pass)]⟩ ours[i] i (some k) true (by omega)
        have hs : step3 ours theirs pass st' i = ⟨st'.met ++ [(i : Int)], st'.tak ++ [k], st'.out ++ [((i : Int), k, pass)]⟩ := by unfold step3; rw [hx]; simp only [hc, hr]; rfl
        refine WG.endC (m13b ours theirs g1 g2 g3 pass st' ours[i] i k hc (by omega)) ?_
        refine WG.endC h14 ?_
        exact ⟨ours.length - (i + 1), by omega, i + 1, _, rfl, hil, hT'.take k, d14, by rw [← hstep, hs], by rw [hs] at hsl; omega⟩
  · have hie : i = ours.length := by omega
    subst hie
    have hp : st' = pass3 ours theirs pass st := hst
    subst hp
    refine WG.seqC (m8e ours theirs g1 g2 g3 pass _) (WG.seqX (m9e ours theirs g1 g2 g3 pass _ _) (by simp) ?_)
    exact hK s' hT' hlen
/-- Behind the first p passes. -/
def upto3 (ours theirs : List Item) : Nat → St3
  | 0 => ⟨[], [], []⟩
  | p + 1 => pass3 ours theirs ((p + 1 : Nat) : Int) (upto3 ours theirs p)
abbrev EO (st : St3) (p : Int) : Env := [(0, .l (items ours)), (1, .l (items theirs)), (7, tab3 theirs g1 g2 g3), (8, .mp (ints st.met) (trues st.met)), (9, .ow 38 (encL triV st.out)), (10, .i .i64 p)]
theorem n6t (st : St3) (p : Nat) (h : p < 3) : exec O0 n11_6 (EO ours theirs g1 g2 g3 st ((p + 1 : Nat) : Int)) = some (.n, EO ours theirs g1 g2 g3 st ((p + 1 : Nat) : Int) ++ [(33, .b true)]) := by
  have h' : ((p : Int) + 1) ≤ 3 := by omega
  simp [n11_6, h']
theorem n6f (st : St3) : exec O0 n11_6 (EO ours theirs g1 g2 g3 st 4) = some (.e 0, [(0, .l (items ours)), (1, .l (items theirs)), (7, tab3 theirs g1 g2 g3), (8, .mp (ints st.met) (trues st.met)), (9, .ow 38 (encL triV st.out))]) := by simp [n11_6]
theorem n7 (st : St3) (p : Int) : ∃ env1, exec O0 n11_7 (EO ours theirs g1 g2 g3 st p ++ [(33, .b true)]) = some (.n, env1) ∧ keepE [0, 1, 7, 8, 9, 10, 36, 37, 38] env1 = EM ours theirs g1 g2 g3 p st 0 := ⟨_, by simp [n11_7]; rfl, by simp⟩
theorem n16 (st : St3) (p : Nat) (h : p < 3) : ∃ env1, exec O0 n11_16 (EO ours theirs g1 g2 g3 st ((p + 1 : Nat) : Int)) = some (.n, env1) ∧ keepE [0, 1, 7, 8, 9, 10] env1 = EO ours theirs g1 g2 g3 st ((p + 1 + 1 : Nat) : Int) := by
  have hw := wrap_i64 ((p : Int) + 1 + 1) (by omega)
  exact ⟨_, by simp [n11_16, hw]; rfl, by simp⟩
theorem outer {K : Ex → Env → Maps → Prop} (ho : ours.length ≤ 4096) (hl : theirs.length ≤ 4096) (hdo : daysOk ours) (hdt : daysOk theirs) {s : Maps} (hT : TabOK theirs g1 g2 g3 [] s) {env : Env} (henv : keepE [0, 1, 7, 8, 9, 10] env = EO ours theirs g1 g2 g3 ⟨[], [], []⟩ 1)
    (hK : ∀ s', TabOK theirs g1 g2 g3 (all3 ours theirs).tak s' → (all3 ours theirs).out.length ≤ 3 * ours.length → K (.e 0) [(0, .l (items ours)), (1, .l (items theirs)), (7, tab3 theirs g1 g2 g3), (8, .mp (ints (all3 ours theirs).met) (trues (all3 ours theirs).met)), (9, .ow 38 (encL triV (all3 ours theirs).out))] s') :
    WG (mapsR Try.prog cfM) addM Try.prog O0 (.loop [0, 1, 7, 8, 9, 10] n11_17) env s K := by
  refine WG.loop (fun n env s' => ∃ p, n = 3 - p ∧ p ≤ 3 ∧ TabOK theirs g1 g2 g3 (upto3 ours theirs p).tak s' ∧ keepE [0, 1, 7, 8, 9, 10] env = EO ours theirs g1 g2 g3 (upto3 ours theirs p) ((p + 1 : Nat) : Int) ∧ (upto3 ours theirs p).out.length ≤ p * ours.length) ?_ (n := 3) (env := _) (s := s) ⟨0, rfl, by omega, hT, henv, by simp [upto3]⟩
  rintro n env s' ⟨p, rfl, hp, hT', henv', hlen⟩
  rw [henv']
  by_cases hp3 : p < 3
  · have hple : p * ours.length ≤ 3 * ours.length := Nat.mul_le_mul_right _ hp
    obtain ⟨env7, h7, d7⟩ := n7 ours theirs g1 g2 g3 (upto3 ours theirs p) ((p + 1 : Nat) : Int)
    refine WG.seqC (n6t ours theirs g1 g2 g3 _ p hp3) (WG.seq' (WG.blk' (WG.seqC h7 (WG.blk' ?_))))
    refine inner ours theirs g1 g2 g3 ho hl hdo hdt _ _ hT' (by omega) d7 fun s1 hT1 hlen1 => ?_
    simp only [↓reduceIte]
    obtain ⟨env16, h16, d16⟩ := n16 ours theirs g1 g2 g3 (upto3 ours theirs (p + 1)) p hp3
    refine WG.endC h16 ?_
    refine ⟨3 - (p + 1), by omega, p + 1, rfl, by omega, hT1, d16, ?_⟩
    rw [Nat.succ_mul]
    have : (upto3 ours theirs (p + 1)).out.length ≤ (upto3 ours theirs p).out.length + ours.length := hlen1
    omega
  · have hpe : p = 3 := by omega
    subst hpe
    refine WG.seqX (n6f ours theirs g1 g2 g3 _) (by simp) ?_
    exact hK s' hT' hlen
end
end Go.Proofs.Ytmhpmghhgppdnaa
