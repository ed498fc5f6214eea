/-
  What the functions that the laws reach compute: the leaves, by sorting and by putting in.
-/
import Derived.Test.YtdaclkakglmfeaaSpec5
namespace Go.Proofs.Ytdaclkakglmfeaa
open Go.VM
variable {X : Orc}
def lvsT (l : List Gl) (root : Int) (i : Nat) : List Int := ((l.take i).filter (leafB l root)).map (·.id)
theorem lvsT_succ (l : List Gl) (root : Int) {i : Nat} (hi : i < l.length) : lvsT l root (i + 1) = lvsT l root i ++ (if leafB l root l[i] = true then [l[i].id] else []) := by
  unfold lvsT
  rw [List.take_succ_eq_append_getElem hi, List.filter_append, List.map_append]
  cases hq : leafB l root l[i] <;> simp [hq]
theorem lvsT_len (l : List Gl) (root : Int) (i : Nat) : (lvsT l root i).length ≤ l.length := by
  unfold lvsT
  rw [List.length_map]
  have h1 := List.length_filter_le (leafB l root) (l.take i)
  have h2 : (l.take i).length ≤ l.length := by rw [List.length_take]; omega
  omega
theorem l19 (l : List Gl) (root : Int) (h : l.length ≤ 1000) : loopK (O X) [0, 1, 5, 8, 9, 10] body19_1 [(0, .l (encG l)), (1, .i .i64 root), (5, .ow 3 []), (8, .l (encG l)), (9, .i .i64 l.length), (10, .i .i64 0)] = some (.e 0, [(5, .ow 3 (ints (lvs l root)))]) := by
  have := loopK_run (o := O X) (kin := [0, 1, 5, 8, 9, 10]) (c := body19_1) (fun i => [(0, .l (encG l)), (1, .i .i64 root), (5, .ow 3 (ints (lvsT l root i))), (8, .l (encG l)), (9, .i .i64 l.length), (10, .i .i64 i)]) l.length (.e 0, [(5, .ow 3 (ints (lvs l root)))]) (by simp) (fun i hi => by
    have hw := wrap_i64 (i + 1) (by omega)
    have h27 := e27 (X := X) l l[i].id h
    have h17 := e17 (X := X) l l[i].id root h
    have hlen := lvsT_len l root i
    rw [lvsT_succ l root hi]
    generalize lvsT l root i = acc at hlen ⊢
    have hap : (acc.length + 1) * 8 ≤ 140737488355328 := by omega
    have hsn := ints_snoc acc l[i].id
    have hA : (ints acc).length = acc.length := by simp
    unfold leafB
    cases hp : parentB l l[i].id <;> rw [hp] at h27
    · cases hu : under l l[i].id root <;> rw [hu] at h17
      · simp [body19_1, hi, hw, h27, h17]
      · simp only [Bool.not_false, Bool.and_self, if_true]
        rw [← hsn]
        generalize ints acc = A at hA ⊢
        simp [body19_1, hi, hw, h27, h17, hap, hA]
    · simp [body19_1, hi, hw, h27]) (by simp [body19_1, lvs, lvsT]) (by simp)
  simpa [lvsT] using this
theorem e19 (l : List Gl) (root : Int) (h : l.length ≤ 1000) : O X 19 [.l (encG l), .i .i64 root] = some (.ow 3 (ints (leaves l root))) := by
  refine orun (fc := code19) rfl rfl rfl ?_
  have hl := l19 (X := X) l root h
  have h32 : mutOf 32 = ⟨3, false, false, sortRun, 0⟩ := rfl
  have h33 : mutOf 33 = ⟨3, true, false, compRun, 0⟩ := rfl
  have hlen : (lvs l root).length ≤ 1000000 := by
    have := lvsT_len l root l.length
    unfold lvsT at this
    rw [List.take_length] at this
    unfold lvs; omega
  have hs : sortRun (ints (lvs l root)) [] = some (ints (isort (lvs l root))) := by simp only [sortRun, toInts_ints, Option.bind_some, if_pos hlen]
  have hc : compRun (ints (isort (lvs l root))) [] = some (ints (leaves l root)) := by
    have : (isort (lvs l root)).length ≤ 1000000 := by rw [(isort_perm _).length_eq]; exact hlen
    simp only [compRun, toInts_ints, Option.bind_some, if_pos this]; rfl
  generalize ints (lvs l root) = A at hl hs
  generalize ints (isort (lvs l root)) = B at hs hc
  generalize ints (leaves l root) = D at hc ⊢
  simp [code19, exec_loopK, hl, h32, h33, hs, hc]
/-! ### By putting in -/
theorem slc_i1 (l : List Int) (i : Nat) (h : i ≤ l.length) : opQ (O X) (.slc 1 false true) [.l (ints l), .i .i64 i] = some (.l (ints (l.take i))) := by
  have hb : bnds (ints l).length false true [.i .i64 (i : Int)] = some (0, i) := by
    have : (i : Int) ≤ ((ints l).length : Int) := by simp; omega
    simp only [bnds]
    rw [if_pos ⟨by omega, this⟩]
    simp
  have ha : (ints l).all (fun x => x.cells.length == 1) = true := encL_all fun _ => rfl
  simp only [opQ, ha, if_true, hb, Option.map_some, List.drop_zero]
  simp [encL]
theorem slc_i2 (l : List Int) (i : Nat) (h : i ≤ l.length) : opQ (O X) (.slc 1 true false) [.l (ints l), .i .i64 i] = some (.l (ints (l.drop i))) := by
  have hb : bnds (ints l).length true false [.i .i64 (i : Int)] = some (i, l.length) := by
    have : (i : Int) ≤ ((ints l).length : Int) := by simp; omega
    simp only [bnds]
    rw [if_pos ⟨by omega, this⟩]
    simp
  have ha : (ints l).all (fun x => x.cells.length == 1) = true := encL_all fun _ => rfl
  simp only [opQ, ha, if_true, hb, Option.map_some]
  have : (ints l).take l.length = ints l := by rw [List.take_of_length_le (by simp)]
  rw [this]
  simp [encL]
theorem l20a (l : List Gl) (root : Int) (i : Nat) (hi : i < l.length) (out : List Int) (ho : out.length ≤ 1000) : ∀ k, k ≤ out.length → loopK (O X) [0, 1, 5, 6, 7] body20_1 [(0, .l (encG l)), (1, .i .i64 root), (5, .ow 3 (ints out)), (6, .i .i64 i), (7, .i .i64 k)] = some (.e 2, [(0, .l (encG l)), (1, .i .i64 root), (5, .ow 3 (ints out)), (6, .i .i64 i), (7, .i .i64 (dn out l[i].id k))])
  | 0, hk => by
    refine loopK_end (by simp) ?_ (by simp)
    simp [body20_1, dn]
  | k + 1, hk => by
    have hk' : k < out.length := by omega
    have hp : (0 : Int) < (k : Int) + 1 := by omega
    have hw : IntKind.i64.wrap (k : Int) = (k : Int) := wrap_i64 _ (by omega)
    have hdn : dn out l[i].id (k + 1) = if l[i].id < out[k] then dn out l[i].id k else k + 1 := by
      show (match out[k]? with | some y => if l[i].id < y then dn out l[i].id k else k + 1 | none => k + 1) = _
      rw [List.getElem?_eq_getElem hk']
    by_cases hx : l[i].id < out[k]
    · rw [if_pos hx] at hdn
      rw [hdn, ← l20a l root i hi out ho k (by omega)]
      refine loopK_go (by simp) (by simp) ?_
      simp [body20_1, hi, hk', hp, hw, hx]
    · rw [if_neg hx] at hdn
      rw [hdn]
      refine loopK_end (by simp) ?_ (by simp)
      simp [body20_1, hi, hk', hp, hw, hx]
theorem l20 (l : List Gl) (root : Int) (h : l.length ≤ 1000) : loopK (O X) [0, 1, 5, 6] body20_2 [(0, .l (encG l)), (1, .i .i64 root), (5, .ow 3 []), (6, .i .i64 0)] = some (.e 0, [(5, .ow 3 (ints (leaves l root)))]) := by
  have := loopK_run (o := O X) (kin := [0, 1, 5, 6]) (c := body20_2) (fun i => [(0, .l (encG l)), (1, .i .i64 root), (5, .ow 3 (ints ((l.take i).foldl (lf l root) []))), (6, .i .i64 i)]) l.length (.e 0, [(5, .ow 3 (ints (leaves l root)))]) (by simp) (fun i hi => by
    have hw := wrap_i64 (i + 1) (by omega)
    have h34 := e34 (X := X) l l[i].id h
    have h18 := e18 (X := X) l l[i].id root h
    have hlen := lf_len l root (l.take i) []
    rw [List.length_take] at hlen
    simp only [List.length_nil] at hlen
    have hstep : (l.take (i + 1)).foldl (lf l root) [] = lf l root ((l.take i).foldl (lf l root) []) l[i] := by
      rw [List.take_succ_eq_append_getElem hi, List.foldl_append]; rfl
    rw [hstep]
    generalize (l.take i).foldl (lf l root) [] = out at hlen ⊢
    unfold lf leafB
    cases hp : parentB l l[i].id <;> rw [hp] at h34
    · cases hu : under l l[i].id root <;> rw [hu] at h18
      · simp [body20_2, hi, hw, h34, h18]
      · simp only [Bool.not_false, Bool.and_self, if_true]
        have hl := l20a (X := X) l root i hi out (by omega) out.length (Nat.le_refl _)
        obtain ⟨d1, d2, d3⟩ := dn_spec out l[i].id out.length (Nat.le_refl _)
        have hA : (ints out).length = out.length := by simp
        unfold insK
        simp only
        generalize dn out l[i].id out.length = k at hl d1 d2 d3 ⊢
        have hs1 := slc_i1 (X := X) out k d1
        have hs2 := slc_i2 (X := X) out k d1
        have hT : (ints (out.take k)).length ≤ 1000 := by simp; omega
        have hD : (ints (out.drop k)).length ≤ 1000 := by simp; omega
        have hap1 : (ints (out.take k)).length * 8 ≤ 140737488355328 := by omega
        have hap2 : ((ints (out.take k)).length + 1) * 8 ≤ 140737488355328 := by omega
        have hap3 : ((ints (out.take k)).length + 1 + (ints (out.drop k)).length) * 8 ≤ 140737488355328 := by omega
        have hTc : (∀ y ∈ ints (out.take k), y.cells.length = 1) = True := encL_len fun _ => rfl
        have hDc : (∀ y ∈ ints (out.drop k), y.cells.length = 1) = True := encL_len fun _ => rfl
        have hres : ints (out.take k ++ l[i].id :: out.drop k) = ints (out.take k) ++ .i .i64 l[i].id :: ints (out.drop k) := by simp [encL]
        have hsame : (0 < k ∧ out[k - 1]? = some l[i].id) → kE [0, 1, 5, 6] (exec (O X) body20_2 [(0, .l (encG l)), (1, .i .i64 root), (5, .ow 3 (ints out)), (6, .i .i64 i)]) = some (.n, [(0, .l (encG l)), (1, .i .i64 root), (5, .ow 3 (ints out)), (6, .i .i64 ((i + 1 : Nat) : Int))]) := by
          rintro ⟨h0, h1⟩
          obtain ⟨k', rfl⟩ : ∃ k', k = k' + 1 := ⟨k - 1, by omega⟩
          have hk' : k' < out.length := by omega
          have hp0 : (0 : Int) < (k' : Int) + 1 := by omega
          have hwk : IntKind.i64.wrap (k' : Int) = (k' : Int) := wrap_i64 _ (by omega)
          rw [Nat.add_sub_cancel, List.getElem?_eq_getElem hk'] at h1
          have h1' : out[k'] = l[i].id := Option.some.inj h1
          simp at hl
          simp [body20_2, exec_loopK, hi, hw, h34, h18, hl, hp0, hwk, hk', h1']
        have hdiff : ¬ (0 < k ∧ out[k - 1]? = some l[i].id) → kE [0, 1, 5, 6] (exec (O X) body20_2 [(0, .l (encG l)), (1, .i .i64 root), (5, .ow 3 (ints out)), (6, .i .i64 i)]) = some (.n, [(0, .l (encG l)), (1, .i .i64 root), (5, .ow 3 (ints (out.take k ++ l[i].id :: out.drop k))), (6, .i .i64 ((i + 1 : Nat) : Int))]) := by
          intro hne
          rw [hres]
          cases k with
          | zero =>
            simp only [Int.natCast_zero] at hl hs1 hs2
            generalize ints (out.take 0) = T at *
            generalize ints (out.drop 0) = D at *
            generalize ints out = A at *
            simp [body20_2, exec_loopK, hi, hw, h34, h18, hl, hs1, hs2, hA, hap1, hap2, hap3, hTc, hDc]
          | succ k' =>
            have hk' : k' < out.length := by omega
            have hp0 : (0 : Int) < (k' : Int) + 1 := by omega
            have hwk : IntKind.i64.wrap (k' : Int) = (k' : Int) := wrap_i64 _ (by omega)
            have h1' : ¬ out[k'] = l[i].id := fun e => hne ⟨by omega, by rw [Nat.add_sub_cancel, List.getElem?_eq_getElem hk', e]⟩
            simp only [Int.natCast_add, Int.natCast_one] at hl hs1 hs2
            generalize ints (out.take (k' + 1)) = T at *
            generalize ints (out.drop (k' + 1)) = D at *
            simp [body20_2, exec_loopK, hi, hw, h34, h18, hl, hs1, hs2, hp0, hwk, hk', h1', hap1, hap2, hap3, hTc, hDc]
        by_cases hc : 0 < k ∧ out[k - 1]? = some l[i].id
        · rw [if_pos hc]; exact hsame hc
        · rw [if_neg hc]; exact hdiff hc
    · simp [body20_2, hi, hw, h34]) (by simp [body20_2, lf_eq]) (by simp)
  simpa using this
theorem e20 (l : List Gl) (root : Int) (h : l.length ≤ 1000) : O X 20 [.l (encG l), .i .i64 root] = some (.ow 3 (ints (leaves l root))) := by
  refine orun (fc := code20) rfl rfl rfl ?_
  have hl := l20 (X := X) l root h
  generalize ints (leaves l root) = D at hl ⊢
  simp [code20, exec_loopK, hl]
end Go.Proofs.Ytdaclkakglmfeaa
