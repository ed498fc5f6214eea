/-
  What the reference computes: balances day by day; the days on which an account moved; the trial balance.
-/
import Derived.Test.YtggmlfmhinafhaaEq1
namespace Go.Proofs.Ytggmlfmhinafhaa
open Go.VM Go.RowKit
variable {X : Orc}
theorem ints_set (l : List Int) (k : Nat) (v : Int) : (ints l).set k (.i .i64 v) = ints (l.set k v) := by simp only [ints, encL, List.map_set]
/-! ### Daily -/
def addAt (n : Int) (out : List Int) (k : Nat) : List Int := out.set k (IntKind.i64.wrap (out.getD k 0 + n))
def rdaI (n : Int) (k0 : Nat) (out : List Int) (m : Nat) : List Int := (List.range m).foldl (fun o j => addAt n o (k0 + j)) out
theorem rdaI_succ (n : Int) (k0 : Nat) (out : List Int) (m : Nat) : rdaI n k0 out (m + 1) = addAt n (rdaI n k0 out m) (k0 + m) := by
  unfold rdaI
  rw [List.range_succ, List.foldl_append]; rfl
theorem rdaI_len (n : Int) (k0 : Nat) (out : List Int) (m : Nat) : (rdaI n k0 out m).length = out.length := by
  induction m with
  | zero => rfl
  | succ m ih => rw [rdaI_succ]; simp [addAt, ih]
theorem l18a (l : List Entry) (a fr to : Int) (i : Nat) (out : List Int) (n d : Int) (hfr : 0 ≤ fr) (hto : to ≤ 73048) (hd : fr ≤ d) (ho : (out.length : Int) = to - fr + 1) :
    loopK (O X) [0, 1, 2, 3, 9, 10, 11, 12] body18_1 [(0, .l (ents l)), (1, .i .i64 a), (2, .i .i64 fr), (3, .i .i64 to), (9, .ow 3 (ints out)), (10, .i .i64 i), (11, .i .i64 n), (12, .i .i64 d)] =
    some (.e 2, [(0, .l (ents l)), (1, .i .i64 a), (2, .i .i64 fr), (3, .i .i64 to), (9, .ow 3 (ints (rdaI n (d - fr).toNat out (if n = 0 then 0 else (to - d + 1).toNat)))), (10, .i .i64 i)]) := by
  generalize hm : (if n = 0 then 0 else (to - d + 1).toNat) = m
  have := loopK_run (o := O X) (kin := [0, 1, 2, 3, 9, 10, 11, 12]) (c := body18_1) (fun j => [(0, .l (ents l)), (1, .i .i64 a), (2, .i .i64 fr), (3, .i .i64 to), (9, .ow 3 (ints (rdaI n (d - fr).toNat out j))), (10, .i .i64 i), (11, .i .i64 n), (12, .i .i64 (d + j))]) m (.e 2, [(0, .l (ents l)), (1, .i .i64 a), (2, .i .i64 fr), (3, .i .i64 to), (9, .ow 3 (ints (rdaI n (d - fr).toNat out m))), (10, .i .i64 i)]) (by simp) (fun j hj => by
    have hn : n ≠ 0 := fun h => by rw [if_pos h] at hm; omega
    rw [if_neg hn] at hm
    have hle : d + j ≤ to := by omega
    rw [rdaI_succ]
    have hL := rdaI_len n (d - fr).toNat out j
    generalize rdaI n (d - fr).toNat out j = L at hL ⊢
    generalize hp : (d - fr).toNat + j = p
    have hw : IntKind.i64.wrap (d + j - fr) = (p : Int) := by rw [wrap_i64 _ (by omega)]; omega
    have hw2 : IntKind.i64.wrap (d + j + 1) = d + (j + 1 : Nat) := by rw [wrap_i64 _ (by omega)]; omega
    have hpl : p < L.length := by omega
    generalize d + ((j + 1 : Nat) : Int) = d2 at hw2 ⊢
    generalize d + (j : Int) = d1 at hw hw2 hle ⊢
    simp [body18_1, hle, hn, hw, hw2, hpl, addAt]
    exact ints_set ..) (by
    by_cases hn : n = 0
    · simp [body18_1, hn]
    · rw [if_neg hn] at hm
      by_cases hle : d + (m : Int) ≤ to
      · omega
      · generalize d + (m : Int) = d1 at hle ⊢
        simp [body18_1, hle]) (by simp)
  simpa [rdaI] using this
def rdaS (a fr to : Int) (out : List Int) (e : Entry) : List Int := rdaI (movF a e) (max fr e.value - fr).toNat out (if movF a e = 0 then 0 else (to - max fr e.value + 1).toNat)
def rdaA (a fr to : Int) (l : List Entry) : List Int := l.foldl (rdaS a fr to) (List.replicate (to - fr + 1).toNat 0)
theorem rdaS_len (a fr to : Int) (l : List Entry) (out : List Int) : (l.foldl (rdaS a fr to) out).length = out.length := by
  induction l generalizing out with
  | nil => rfl
  | cons e l ih => rw [List.foldl_cons, ih, rdaS, rdaI_len]
theorem l18 (l : List Entry) (a fr to : Int) (h : l.length ≤ 4096) (hl : ∀ e ∈ l, e.legs.length ≤ 4096) (hfr : 0 ≤ fr) (hto : to ≤ 73048) (hft : fr ≤ to) :
    loopK (O X) [0, 1, 2, 3, 9, 10] body18_2 [(0, .l (ents l)), (1, .i .i64 a), (2, .i .i64 fr), (3, .i .i64 to), (9, .ow 3 (ints (List.replicate (to - fr + 1).toNat 0))), (10, .i .i64 0)] = some (.e 0, [(9, .ow 3 (ints (rdaA a fr to l)))]) := by
  have := loopK_code (o := O X) (kin := [0, 1, 2, 3, 9, 10]) (c := body18_2) (fun i => [(0, .l (ents l)), (1, .i .i64 a), (2, .i .i64 fr), (3, .i .i64 to), (9, .ow 3 (ints ((l.take i).foldl (rdaS a fr to) (List.replicate (to - fr + 1).toNat 0)))), (10, .i .i64 i)]) l.length (fun _ => (none : Option Unit)) (fun _ => (.r, [])) (.e 0, [(9, .ow 3 (ints (rdaA a fr to l)))]) (by simp) (by simp) (fun i hi => by
    have hw := wrap_i64 (i + 1) (by omega)
    have h26 := o26 (X := X) l[i] a (hl _ (List.getElem_mem hi))
    simp only [Entry.v] at h26
    rw [ft_succ (rdaS a fr to) _ l hi]
    have hL := rdaS_len a fr to (l.take i) (List.replicate (to - fr + 1).toNat 0)
    rw [List.length_replicate] at hL
    generalize (l.take i).foldl (rdaS a fr to) (List.replicate (to - fr + 1).toNat 0) = out at hL ⊢
    have ha := l18a (X := X) l a fr to i out (movF a l[i]) (max fr l[i].value) hfr hto (Int.le_max_left ..) (by omega)
    unfold rdaS
    generalize rdaI (movF a l[i]) (max fr l[i].value - fr).toNat out (if movF a l[i] = 0 then 0 else (to - max fr l[i].value + 1).toNat) = out2 at ha ⊢
    rw [show max fr l[i].value = if fr < l[i].value then l[i].value else fr from by split <;> omega] at ha
    simp [body18_2, hi, hw, h26, exec_loopK, ha]) (by simp [body18_2, rdaA]) (by simp)
  simpa [fs_none] using this
def rdaOk (fr to : Int) : Bool := decide (0 ≤ fr ∧ to ≤ 73048 ∧ fr ≤ to ∧ to - fr < 4000)
theorem o18 (l : List Entry) (a fr to : Int) (h : l.length ≤ 4096) (hl : ∀ e ∈ l, e.legs.length ≤ 4096) (hf : I64 fr) (ht : I64 to) : O X 18 [.l (ents l), .i .i64 a, .i .i64 fr, .i .i64 to] = some (.ow 3 (ints (if rdaOk fr to = true then rdaA a fr to l else []))) := by
  refine orun (fc := code18) rfl rfl rfl ?_
  unfold I64 at hf ht
  by_cases h1 : fr < 0
  · have hn : rdaOk fr to = false := by unfold rdaOk; rw [decide_eq_false_iff_not]; omega
    simp [code18, h1, hn]
  by_cases h2 : 73048 < to
  · have hn : rdaOk fr to = false := by unfold rdaOk; rw [decide_eq_false_iff_not]; omega
    simp [code18, h1, h2, hn]
  by_cases h3 : to < fr
  · have hn : rdaOk fr to = false := by unfold rdaOk; rw [decide_eq_false_iff_not]; omega
    simp [code18, h1, h2, h3, hn]
  have hw : IntKind.i64.wrap (to - fr) = to - fr := wrap_i64 _ (by omega)
  by_cases h4 : 4000 ≤ to - fr
  · have hn : rdaOk fr to = false := by unfold rdaOk; rw [decide_eq_false_iff_not]; omega
    simp [code18, h1, h2, h3, hw, h4, hn]
  have hy : rdaOk fr to = true := by unfold rdaOk; rw [decide_eq_true_iff]; omega
  have hL := l18 (X := X) l a fr to h hl (by omega) (by omega) (by omega)
  have hw2 : IntKind.i64.wrap (to - fr + 1) = ((to - fr + 1).toNat : Int) := by rw [wrap_i64 _ (by omega)]; omega
  have hb : (to - fr + 1).toNat ≤ 4000 := by omega
  rw [if_pos hy]
  generalize (to - fr + 1).toNat = k at hL hw2 hb
  generalize rdaA a fr to l = out at hL ⊢
  rw [show ints (List.replicate k 0) = List.replicate k (V.i .i64 0) from by simp [ints, encL]] at hL
  have hk8 : (k : Int) * 8 ≤ 140737488355328 := by omega
  simp [code18, h1, h2, h3, hw, h4, hw2, hk8, exec_loopK, hL]
end Go.Proofs.Ytggmlfmhinafhaa
namespace Go.Proofs.Ytggmlfmhinafhaa
open Go.VM Go.RowKit
variable {X : Orc}
theorem isl_take (o : Orc) (l : List Int) (k : Nat) (hk : k ≤ l.length) : opQ o (.slc 1 false true) [.l (ints l), .i .i64 (k : Int)] = some (.l (ints (l.take k))) := by
  have hb : bnds (ints l).length false true [.i .i64 (k : Int)] = some (0, k) := by
    have : (k : Int) ≤ ((ints l).length : Int) := by simp; omega
    simp only [bnds]
    rw [if_pos ⟨by omega, this⟩]
    simp
  have ha : (ints l).all (fun x => x.cells.length == 1) = true := encL_all fun _ => rfl
  simp only [opQ, ha, if_true, hb, Option.map_some, List.drop_zero]
  simp [encL]
theorem isl_drop (o : Orc) (l : List Int) (k : Nat) (hk : k ≤ l.length) : opQ o (.slc 1 true false) [.l (ints l), .i .i64 (k : Int)] = some (.l (ints (l.drop k))) := by
  have hb : bnds (ints l).length true false [.i .i64 (k : Int)] = some (k, l.length) := by
    have : (k : Int) ≤ ((ints l).length : Int) := by simp; omega
    simp only [bnds]
    rw [if_pos ⟨by omega, this⟩]
    simp
  have ha : (ints l).all (fun x => x.cells.length == 1) = true := encL_all fun _ => rfl
  simp only [opQ, ha, if_true, hb, Option.map_some]
  simp only [encL]
  rw [List.take_of_length_le (by simp), List.map_drop]
def hasA (a : Int) (e : Entry) : Bool := e.legs.any fun x => decide (x.account = a)
theorem l20a (l : List Entry) (a : Int) (i : Nat) (hi : i < l.length) (out : List Int) (h : l[i].legs.length ≤ 4096) :
    loopK (O X) [0, 1, 5, 6, 7, 8] body20_1 [(0, .l (ents l)), (1, .i .i64 a), (5, .ow 3 (ints out)), (6, .i .i64 i), (7, .b false), (8, .i .i64 0)] = some (.e 2, [(0, .l (ents l)), (1, .i .i64 a), (5, .ow 3 (ints out)), (6, .i .i64 i), (7, .b (hasA a l[i]))]) := by
  have := loopK_code (o := O X) (kin := [0, 1, 5, 6, 7, 8]) (c := body20_1) (fun j => [(0, .l (ents l)), (1, .i .i64 a), (5, .ow 3 (ints out)), (6, .i .i64 i), (7, .b ((l[i].legs.take j).any fun x => decide (x.account = a))), (8, .i .i64 j)]) l[i].legs.length (fun _ => (none : Option Unit)) (fun _ => (.r, [])) (.e 2, [(0, .l (ents l)), (1, .i .i64 a), (5, .ow 3 (ints out)), (6, .i .i64 i), (7, .b (hasA a l[i]))]) (by simp) (by simp) (fun j hj => by
    have hw := wrap_i64 (j + 1) (by omega)
    rw [List.take_succ_eq_append_getElem hj, List.any_append]
    generalize (l[i].legs.take j).any (fun x => decide (x.account = a)) = b
    by_cases h : l[i].legs[j].account = a <;> cases b <;> simp [body20_1, hi, hj, hw, h]) (by simp [body20_1, hi, hasA]) (by simp)
  simpa [fs_none] using this
/-- Down from the end to the first that is not above. -/
def dnI (out : List Int) (v : Int) : Nat → Nat
  | 0 => 0
  | k + 1 => if v < out.getD k 0 then dnI out v k else k + 1
theorem dnI_le (out : List Int) (v : Int) : ∀ k, dnI out v k ≤ k
  | 0 => Nat.le_refl _
  | k + 1 => by
    unfold dnI
    have := dnI_le out v k
    split <;> omega
theorem dnI_gt (out : List Int) (v : Int) : ∀ k j, dnI out v k ≤ j → j < k → v < out.getD j 0
  | 0, j, _, h => by omega
  | k + 1, j, h1, h2 => by
    unfold dnI at h1
    split at h1
    · rename_i h
      by_cases hj : j = k
      · subst hj; exact h
      · exact dnI_gt out v k j h1 (by omega)
    · omega
theorem dnI_at (out : List Int) (v : Int) : ∀ k, 0 < dnI out v k → ¬ v < out.getD (dnI out v k - 1) 0
  | 0, h => by simp [dnI] at h
  | k + 1, h => by
    by_cases hv : v < out.getD k 0
    · have hu : dnI out v (k + 1) = dnI out v k := by rw [dnI, if_pos hv]
      rw [hu] at h ⊢
      exact dnI_at out v k h
    · have hu : dnI out v (k + 1) = k + 1 := by rw [dnI, if_neg hv]
      rw [hu]; simpa using hv
theorem l20b (l : List Entry) (a : Int) (i : Nat) (hi : i < l.length) (out : List Int) (ho : out.length ≤ 4096) :
    loopK (O X) [0, 1, 5, 6, 9] body20_2 [(0, .l (ents l)), (1, .i .i64 a), (5, .ow 3 (ints out)), (6, .i .i64 i), (9, .i .i64 (out.length : Int))] = some (.e 4, [(0, .l (ents l)), (1, .i .i64 a), (5, .ow 3 (ints out)), (6, .i .i64 i), (9, .i .i64 (dnI out l[i].value out.length : Nat))]) := by
  have hle := dnI_le out l[i].value out.length
  have hat := dnI_at out l[i].value out.length
  have hgt := dnI_gt out l[i].value out.length
  generalize dnI out l[i].value out.length = d at hle hat hgt ⊢
  have := loopK_run (o := O X) (kin := [0, 1, 5, 6, 9]) (c := body20_2) (fun j => [(0, .l (ents l)), (1, .i .i64 a), (5, .ow 3 (ints out)), (6, .i .i64 i), (9, .i .i64 ((out.length - j : Nat) : Int))]) (out.length - d) (.e 4, [(0, .l (ents l)), (1, .i .i64 a), (5, .ow 3 (ints out)), (6, .i .i64 i), (9, .i .i64 (d : Int))]) (by simp) (fun j hj => by
    obtain ⟨p, hp⟩ : ∃ p, out.length - j = p + 1 := ⟨out.length - j - 1, by omega⟩
    have hp2 : out.length - (j + 1) = p := by omega
    have hpl : p < out.length := by omega
    have hv := hgt p (by omega) hpl
    rw [List.getD_eq_getElem?_getD, List.getElem?_eq_getElem hpl, Option.getD_some] at hv
    have hw : IntKind.i64.wrap ((p : Int) + 1 - 1) = (p : Int) := by rw [wrap_i64 _ (by omega)]; omega
    have h0 : (0 : Int) < (p : Int) + 1 := by omega
    rw [hp, hp2, Int.natCast_add]
    simp only [Int.cast_ofNat_Int]
    generalize hq : (p : Int) + 1 = q at hw h0 ⊢
    simp [body20_2, hi, hpl, h0, hw, hv]) (by
    have hd : out.length - (out.length - d) = d := by omega
    rw [hd]
    by_cases h0 : d = 0
    · subst h0
      simp [body20_2]
    · obtain ⟨p, rfl⟩ : ∃ p, d = p + 1 := ⟨d - 1, by omega⟩
      have hpl : p < out.length := by omega
      have hv := hat (by omega)
      rw [show p + 1 - 1 = p from rfl, List.getD_eq_getElem?_getD, List.getElem?_eq_getElem hpl, Option.getD_some] at hv
      have hw : IntKind.i64.wrap ((p : Int) + 1 - 1) = (p : Int) := by rw [wrap_i64 _ (by omega)]; omega
      have h1 : (0 : Int) < (p : Int) + 1 := by omega
      rw [Int.natCast_add]
      simp only [Int.cast_ofNat_Int]
      generalize hq : (p : Int) + 1 = q at hw h1 ⊢
      simp [body20_2, hi, hpl, h1, hw, hv]) (by simp)
  simpa using this
def rmoI (out : List Int) (v : Int) : List Int := if 0 < dnI out v out.length ∧ out.getD (dnI out v out.length - 1) 0 = v then out else out.take (dnI out v out.length) ++ v :: out.drop (dnI out v out.length)
def rmoS (a : Int) (out : List Int) (e : Entry) : List Int := if hasA a e = true then rmoI out e.value else out
def rmoF (a : Int) (l : List Entry) : List Int := l.foldl (rmoS a) []
theorem rmoI_len (out : List Int) (v : Int) : (rmoI out v).length ≤ out.length + 1 := by
  unfold rmoI
  have := dnI_le out v out.length
  split
  · omega
  · simp; omega
theorem rmoS_len (a : Int) (l : List Entry) (out : List Int) : (l.foldl (rmoS a) out).length ≤ out.length + l.length := by
  induction l generalizing out with
  | nil => exact Nat.le_refl _
  | cons e l ih =>
    rw [List.foldl_cons]
    have h1 := ih (rmoS a out e)
    have h2 : (rmoS a out e).length ≤ out.length + 1 := by
      unfold rmoS
      split
      · exact rmoI_len _ _
      · omega
    simp only [List.length_cons]; omega
set_option maxHeartbeats 2000000 in
theorem s20 (l : List Entry) (a : Int) (i : Nat) (hi : i < l.length) (out : List Int) (ho : out.length ≤ 4096) (hl : l.length ≤ 4096) (h : l[i].legs.length ≤ 4096) :
    kE [0, 1, 5, 6] (exec (O X) body20_3 [(0, .l (ents l)), (1, .i .i64 a), (5, .ow 3 (ints out)), (6, .i .i64 i)]) = some (.n, [(0, .l (ents l)), (1, .i .i64 a), (5, .ow 3 (ints (rmoS a out l[i]))), (6, .i .i64 ((i + 1 : Nat) : Int))]) := by
  have hw := wrap_i64 (i + 1) (by omega)
  have ha := l20a (X := X) l a i hi out h
  unfold rmoS
  by_cases hh : hasA a l[i] = true
  · rw [hh] at ha
    rw [if_pos hh]
    have hb := l20b (X := X) l a i hi out ho
    unfold rmoI
    have hle := dnI_le out l[i].value out.length
    generalize dnI out l[i].value out.length = d at hb hle ⊢
    have ht := isl_take (O X) out d hle
    have hdr := isl_drop (O X) out d hle
    have hm1 : (out.take d).length * 8 ≤ 140737488355328 := by rw [List.length_take]; omega
    have hm2 : ((out.take d).length + 1) * 8 ≤ 140737488355328 := by rw [List.length_take]; omega
    have hm3 : ((out.take d).length + 1 + (out.drop d).length) * 8 ≤ 140737488355328 := by rw [List.length_take, List.length_drop]; omega
    by_cases h0 : d = 0
    · subst h0
      rw [if_neg (fun h => absurd h.1 (Nat.lt_irrefl _))]
      generalize out.take 0 = l1 at ht hm1 hm2 hm3 ⊢
      generalize out.drop 0 = l2 at hdr hm3 ⊢
      simp only [Int.natCast_zero] at ht hdr hb
      simp [body20_3, exec_loopK, ha, hb, ht, hdr, hm1, hm2, hm3, hw, hi]
      simp [ints, encL]
    · obtain ⟨p, rfl⟩ : ∃ p, d = p + 1 := ⟨d - 1, by omega⟩
      have hpl : p < out.length := by omega
      have hw2 : IntKind.i64.wrap (((p + 1 : Nat) : Int) - 1) = (p : Int) := by rw [wrap_i64 _ (by omega)]; omega
      have h1 : (0 : Int) < ((p + 1 : Nat) : Int) := by omega
      rw [show p + 1 - 1 = p from rfl, List.getD_eq_getElem?_getD, List.getElem?_eq_getElem hpl, Option.getD_some]
      generalize out.take (p + 1) = l1 at ht hm1 hm2 hm3 ⊢
      generalize out.drop (p + 1) = l2 at hdr hm3 ⊢
      by_cases hv : out[p] = l[i].value
      · rw [if_pos ⟨by omega, hv⟩]
        generalize ((p + 1 : Nat) : Int) = q at *
        simp [body20_3, exec_loopK, ha, hb, hi, hpl, h1, hw2, hv]
        exact hw
      · rw [if_neg (fun h => hv h.2)]
        generalize ((p + 1 : Nat) : Int) = q at *
        simp [body20_3, exec_loopK, ha, hb, hi, hpl, h1, hw2, hv, hw, ht, hdr, hm1, hm2, hm3]
        simp [ints, encL]
  · rw [Bool.not_eq_true] at hh
    rw [hh] at ha
    simp [body20_3, exec_loopK, ha, hh, hw, hi]
theorem l20 (l : List Entry) (a : Int) (h : l.length ≤ 4096) (hl : ∀ e ∈ l, e.legs.length ≤ 4096) :
    loopK (O X) [0, 1, 5, 6] body20_3 [(0, .l (ents l)), (1, .i .i64 a), (5, .ow 3 (ints [])), (6, .i .i64 0)] = some (.e 0, [(5, .ow 3 (ints (rmoF a l)))]) := by
  have := loopK_run (o := O X) (kin := [0, 1, 5, 6]) (c := body20_3) (fun i => [(0, .l (ents l)), (1, .i .i64 a), (5, .ow 3 (ints ((l.take i).foldl (rmoS a) []))), (6, .i .i64 i)]) l.length (.e 0, [(5, .ow 3 (ints (rmoF a l)))]) (by simp) (fun i hi => by
    have hL := rmoS_len a (l.take i) []
    rw [List.length_take, List.length_nil] at hL
    rw [ft_succ (rmoS a) [] l hi]
    exact s20 l a i hi _ (by omega) h (hl _ (List.getElem_mem hi))) (by simp [body20_3, rmoF]) (by simp)
  simpa using this
theorem o20 (l : List Entry) (a : Int) (h : l.length ≤ 4096) (hl : ∀ e ∈ l, e.legs.length ≤ 4096) : O X 20 [.l (ents l), .i .i64 a] = some (.ow 3 (ints (rmoF a l))) := by
  refine orun (fc := code20) rfl rfl rfl ?_
  have hL := l20 (X := X) l a h hl
  rw [show ints [] = [] from rfl] at hL
  generalize rmoF a l = out at hL ⊢
  simp [code20, exec_loopK, hL]
end Go.Proofs.Ytggmlfmhinafhaa
namespace Go.Proofs.Ytggmlfmhinafhaa
open Go.VM Go.RowKit
variable {X : Orc}
abbrev leg3 (x : Leg) : L3 := (x.account, x.amount, x.currency)
def ad3 (l : List L3) (x : Leg) : List L3 := add3 l (leg3 x)
theorem add3_len (l : List L3) (x : L3) : (add3 l x).length ≤ l.length + 1 := by
  unfold add3
  have := up3_le x l
  split
  · split
    · simp; omega
    · simp
  · simp
theorem ad3_len (xs : List Leg) : ∀ l : List L3, (xs.foldl ad3 l).length ≤ l.length + xs.length := by
  induction xs with
  | nil => intro l; exact Nat.le_refl _
  | cons x xs ih =>
    intro l
    have h1 := ih (ad3 l x)
    have h2 : (ad3 l x).length ≤ l.length + 1 := add3_len l _
    rw [List.foldl_cons]
    simp only [List.length_cons]; omega
theorem mut35 : mutOf 35 = ⟨44, true, false, addRun, 0⟩ := by rfl
theorem l23a (l : List Entry) (i : Nat) (hi : i < l.length) (s : List L3) (hs : s.length ≤ 200000) (h : l[i].legs.length ≤ 400) :
    loopK (O X) [0, 3, 4, 5, 6] body23_1 [(0, .l (ents l)), (3, .ow 44 (l3s s)), (4, .ow 44 []), (5, .i .i64 i), (6, .i .i64 0)] = some (.e 2, [(0, .l (ents l)), (3, .ow 44 (l3s (l[i].legs.foldl ad3 s))), (4, .ow 44 []), (5, .i .i64 i)]) := by
  have := loopK_run (o := O X) (kin := [0, 3, 4, 5, 6]) (c := body23_1) (fun j => [(0, .l (ents l)), (3, .ow 44 (l3s ((l[i].legs.take j).foldl ad3 s))), (4, .ow 44 []), (5, .i .i64 i), (6, .i .i64 j)]) l[i].legs.length (.e 2, [(0, .l (ents l)), (3, .ow 44 (l3s (l[i].legs.foldl ad3 s))), (4, .ow 44 []), (5, .i .i64 i)]) (by simp) (fun j hj => by
    have hw := wrap_i64 (j + 1) (by omega)
    have hL := ad3_len (l[i].legs.take j) s
    rw [List.length_take] at hL
    rw [ft_succ ad3 s l[i].legs hj]
    generalize (l[i].legs.take j).foldl ad3 s = L at hL ⊢
    have hr := addRun_eq L (leg3 l[i].legs[j]) (by omega)
    simp only [l3V, leg3] at hr
    unfold ad3
    generalize add3 L (leg3 l[i].legs[j]) = L2 at hr ⊢
    simp [body23_1, hi, hj, hw, mut35, hr]) (by simp [body23_1, hi]) (by simp)
  simpa using this
def rtrS (s : List L3) (e : Entry) : List L3 := e.legs.foldl ad3 s
def rtr3 (l : List Entry) : List L3 := l.foldl rtrS []
def nz3 (x : L3) : Bool := x.2.1 != 0
theorem rtrS_len (l : List Entry) (s : List L3) (h : ∀ e ∈ l, e.legs.length ≤ 400) : (l.foldl rtrS s).length ≤ s.length + 400 * l.length := by
  induction l generalizing s with
  | nil => exact Nat.le_add_right ..
  | cons e l ih =>
    have h1 := ih (rtrS s e) fun f hf => h f (List.mem_cons_of_mem _ hf)
    have h2 : (rtrS s e).length ≤ s.length + e.legs.length := ad3_len _ _
    have h3 := h e (List.mem_cons_self ..)
    rw [List.foldl_cons]
    simp only [List.length_cons]; omega
theorem l23b (l : List Entry) (h : l.length ≤ 400) (hl : ∀ e ∈ l, e.legs.length ≤ 400) :
    loopK (O X) [0, 3, 4, 5] body23_2 [(0, .l (ents l)), (3, .ow 44 (l3s [])), (4, .ow 44 []), (5, .i .i64 0)] = some (.e 0, [(3, .ow 44 (l3s (rtr3 l))), (4, .ow 44 [])]) := by
  have := loopK_run (o := O X) (kin := [0, 3, 4, 5]) (c := body23_2) (fun i => [(0, .l (ents l)), (3, .ow 44 (l3s ((l.take i).foldl rtrS []))), (4, .ow 44 []), (5, .i .i64 i)]) l.length (.e 0, [(3, .ow 44 (l3s (rtr3 l))), (4, .ow 44 [])]) (by simp) (fun i hi => by
    have hw := wrap_i64 (i + 1) (by omega)
    have hL := rtrS_len (l.take i) [] fun e he => hl e (List.mem_of_mem_take he)
    rw [List.length_take, List.length_nil] at hL
    rw [ft_succ rtrS [] l hi]
    generalize (l.take i).foldl rtrS [] = L at hL ⊢
    have ha := l23a (X := X) l i hi L (by omega) (hl _ (List.getElem_mem hi))
    unfold rtrS
    generalize l[i].legs.foldl ad3 L = L2 at ha ⊢
    simp [body23_2, exec_loopK, hi, hw, ha]) (by simp [body23_2, rtr3]) (by simp)
  simpa using this
theorem l23c (L : List L3) (h : L.length ≤ 1000000) :
    loopK (O X) [3, 4, 7] body23_3 [(3, .ow 44 (l3s L)), (4, .ow 44 (l3s [])), (7, .i .i64 0)] = some (.e 4, [(4, .ow 44 (l3s (L.filter nz3)))]) := by
  have := loopK_run (o := O X) (kin := [3, 4, 7]) (c := body23_3) (fun i => [(3, .ow 44 (l3s L)), (4, .ow 44 (l3s ((L.take i).filter nz3))), (7, .i .i64 i)]) L.length (.e 4, [(4, .ow 44 (l3s (L.filter nz3)))]) (by simp) (fun i hi => by
    have hw := wrap_i64 (i + 1) (by omega)
    have hL : ((L.take i).filter nz3).length ≤ i := Nat.le_trans (List.length_filter_le ..) (by rw [List.length_take]; omega)
    rw [List.take_succ_eq_append_getElem hi, List.filter_append]
    generalize (L.take i).filter nz3 = M at hL ⊢
    have hm : (M.length + 1) * 32 ≤ 140737488355328 := by omega
    by_cases h0 : L[i].2.1 = 0
    · have hf : [L[i]].filter nz3 = [] := by simp [nz3, h0]
      rw [hf, List.append_nil]
      simp [body23_3, hi, hw, l3V, h0]
    · have hf : [L[i]].filter nz3 = [L[i]] := by simp [nz3, h0]
      rw [hf]
      simp [body23_3, hi, hw, l3V, h0, hm]
      simp [encL, l3V]) (by simp [body23_3]) (by simp)
  simpa using this
theorem o23 (l : List Entry) (h : l.length ≤ 400) (hl : ∀ e ∈ l, e.legs.length ≤ 400) : O X 23 [.l (ents l)] = some (.ow 44 (l3s ((rtr3 l).filter nz3))) := by
  refine orun (fc := code23) rfl rfl rfl ?_
  have hb := l23b (X := X) l h hl
  have hL := rtrS_len l [] hl
  have hL2 : (rtr3 l).length ≤ 160000 := by rw [List.length_nil] at hL; unfold rtr3; omega
  have hc := l23c (X := X) (rtr3 l) (by omega)
  rw [show l3s [] = [] from rfl] at hb hc
  generalize (rtr3 l).filter nz3 = out at hc ⊢
  generalize rtr3 l = L at hb hc
  simp [code23, exec_loopK, hb, hc]
end Go.Proofs.Ytggmlfmhinafhaa
