/-
  Matching items: the contract of Match, out of that of the table's making.
-/
import Derived.Test.YtmhpmghhgppdnaaMat2
namespace Go.Proofs.Ytmhpmghhgppdnaa
open Go.VM Go.RowKit
/-- The table is made. -/
def OpenOK (theirs : List Item) : Prop := PFN Try.prog (mapsR Try.prog cfM) 28 [.l (items theirs)] [] fun y s => ∃ g1 g2 g3, y = tab3 theirs g1 g2 g3 ∧ TabOK theirs g1 g2 g3 [] s
def matchV (ours theirs : List Item) : V := .t [.l (encL triV (isortT (all3 ours theirs).out)), .l (ints (restP ours.length (all3 ours theirs).met)), .l (ints (restP theirs.length (all3 ours theirs).tak))]
/-- What the memory answers. -/
noncomputable def readO (s : Maps) : Orc := fun f zs => (mapEff Try.prog cfM s f zs).map (·.1)
theorem it11_19 (s : Maps) (af : List (List Nat)) : ∀ (i : Nat) (st : RSt), n11_19[i]? = some st → okItem (mapsR Try.prog cfM) s s (readO s) af 100 i st := by
  intro i st hi
  have hlt : i < 15 := (List.getElem?_eq_some_iff.1 hi).1
  have hN : ∀ zs y, readO s NILC zs = some y → mapEff Try.prog cfM s NILC zs = some (y, s) := fun zs y h => by
    unfold readO at h
    simp only [Option.map_eq_some_iff] at h
    obtain ⟨p, hp, rfl⟩ := h
    have := look_same (.inr rfl) hp
    rw [hp, ← this]
  have hR : ∀ zs y, readO s 27 zs = some y → mapEff Try.prog cfM s 27 zs = some (y, s) := fun zs y h => by
    unfold readO at h
    simp only [Option.map_eq_some_iff] at h
    obtain ⟨⟨y', s'⟩, hp, rfl⟩ := h
    have h1 := hp
    rw [eff_cf (by omega)] at h1
    have := cfM_state h1
    subst this
    exact hp
  match i, hlt with
  | 0, _ | 1, _ | 2, _ | 3, _ | 5, _ | 6, _ | 7, _ | 9, _ | 10, _ | 12, _ | 13, _ | 14, _ => simp only [n11_19, List.getElem?_cons_zero, List.getElem?_cons_succ, Option.some.injEq] at hi; subst hi; exact ⟨rfl, .inr rfl⟩
  | 4, _ | 11, _ => simp only [n11_19, List.getElem?_cons_zero, List.getElem?_cons_succ, Option.some.injEq] at hi; subst hi; simp only [okItem]; rw [if_neg (by decide)]; exact ⟨.inl trivial, hR⟩
  | 8, _ => simp only [n11_19, List.getElem?_cons_zero, List.getElem?_cons_succ, Option.some.injEq] at hi; subst hi; simp only [okItem]; rw [if_neg (by decide)]; exact ⟨.inl trivial, hN⟩
section
variable (ours theirs : List Item) (g1 g2 g3 g : Nat)
abbrev ER (out : List Tri) : Env := [(0, .l (items ours)), (1, .l (items theirs)), (7, tab3 theirs g1 g2 g3), (8, .mr (some g)), (9, .l (encL triV out))]
theorem nn27 : (NILC = 27) = False := eq_false (by decide)
set_option maxHeartbeats 4000000 in
theorem d19 {s : Maps} {met tak : List Int} (ho : ours.length ≤ 4096) (hl : theirs.length ≤ 4096) (h1 : isSet s g met) (h2 : isSet s g3 tak) (out : List Tri) : ∃ env1, drawN (readO s) (n11_19.map RSt.gst) n11_19a (frzAll (ER ours theirs g1 g2 g3 g out)) = some env1 ∧
    keepE [4, 5, 6] (dropE [66, 67, 68, 69, 70, 71, 72, 73, 74, 75, 76, 77] env1) = [(4, .l (encL triV out)), (5, .l (ints (restP ours.length met))), (6, .l (ints (restP theirs.length tak)))] := by
  have e1 : readO s 27 [.i .i64 ours.length, .mr (some g)] = some (.l (ints (restP ours.length met))) := by
    have := cfM_27 (s := s) (zs := [.i .i64 ours.length, .mr (some g)]) ⟨ours.length, some g, met⟩ ⟨rfl, h1, by show ours.length ≤ 100000; omega⟩
    unfold readO
    rw [eff_cf (by omega), this]; rfl
  have e2 : readO s 27 [.i .i64 theirs.length, .mr (some g3)] = some (.l (ints (restP theirs.length tak))) := by
    have := cfM_27 (s := s) (zs := [.i .i64 theirs.length, .mr (some g3)]) ⟨theirs.length, some g3, tak⟩ ⟨rfl, h2, by show theirs.length ≤ 100000; omega⟩
    unfold readO
    rw [eff_cf (by omega), this]; rfl
  have e3 : ∀ cs, readO s NILC [.r cs] = some (.r cs) := fun cs => by
    unfold readO
    rw [nil_check]; rfl
  exact ⟨_, by simp (config := { maxSteps := 1000000 }) [drawN, noOB, runNo, n11_19, n11_19a, RSt.gst, frzAll, e1, e2, e3]; rfl, by simp⟩
end
theorem match_PF (hmut : MutOK Try.prog) (ours theirs : List Item) (ho : ours.length ≤ 4096) (hl : theirs.length ≤ 4096) (hdo : daysOk ours) (hdt : daysOk theirs) (hopen : OpenOK theirs) (hs : strictT (isortT (all3 ours theirs).out) = true) : PF Try.prog 11 [.l (items ours), .l (items theirs)] (matchV ours theirs) := by
  refine bodyN_sound (ρ := mapsR Try.prog cfM) (ad := addM) (sound0 hmut) (cfM_sound hmut) mapsR_ad Try.func11 comp11 (s := []) (fun S w => mapsR_start S w) rfl rfl ?_
  unfold code11
  have e1 : exec O0 n11_1 (args0 0 [.l (items ours), .l (items theirs)]) = some (.n, [(0, .l (items ours)), (1, .l (items theirs)), (4, .ow 38 []), (5, .ow 3 []), (6, .ow 3 [])]) := by simp [n11_1, args0]
  have hlo : ¬ (4096 : Int) < (ours.length : Int) := by omega
  have hlt : ¬ (4096 : Int) < (theirs.length : Int) := by omega
  have e2 : exec O0 n11_2 [(0, .l (items ours)), (1, .l (items theirs)), (4, .ow 38 []), (5, .ow 3 []), (6, .ow 3 [])] = some (.n, [(0, .l (items ours)), (1, .l (items theirs)), (4, .ow 38 []), (5, .ow 3 []), (6, .ow 3 []), (22, .b false)]) := by simp [n11_2, hlo, hlt]
  refine WG.seqC e1 (WG.seqC e2 (WG.seq' ?_))
  refine ⟨[(0, .l (items ours)), (1, .l (items theirs)), (4, .ow 38 []), (5, .ow 3 []), (6, .ow 3 []), (22, .b false), (29, .l (items theirs))], by simp, by simp [frzAll, bare], [.l (items theirs)], by simp [frzAll], by kernel_rfl, _, hopen, ?_⟩
  rintro y s1 ⟨g1, g2, g3, rfl, hT⟩
  refine ⟨rfl, [(0, .l (items ours)), (1, .l (items theirs)), (4, .l []), (5, .l []), (6, .l []), (7, tab3 theirs g1 g2 g3), (22, .b false), (29, .l (items theirs)), (30, tab3 theirs g1 g2 g3)], by simp [frzAll], ?_⟩
  have e3 : exec O0 n11_3 (dropE [29, 30] [(0, .l (items ours)), (1, .l (items theirs)), (4, .l []), (5, .l []), (6, .l []), (7, tab3 theirs g1 g2 g3), (22, .b false), (29, .l (items theirs)), (30, tab3 theirs g1 g2 g3)]) = some (.n, [(0, .l (items ours)), (1, .l (items theirs)), (4, .l []), (5, .l []), (6, .l []), (7, tab3 theirs g1 g2 g3), (8, .mp [] []), (22, .b false)]) := by simp [n11_3]
  have e4 : exec O0 n11_4 [(0, .l (items ours)), (1, .l (items theirs)), (4, .l []), (5, .l []), (6, .l []), (7, tab3 theirs g1 g2 g3), (8, .mp [] []), (22, .b false)] = some (.n, [(0, .l (items ours)), (1, .l (items theirs)), (4, .l []), (5, .l []), (6, .l []), (7, tab3 theirs g1 g2 g3), (8, .mp [] []), (9, .ow 38 []), (22, .b false)]) := by simp [n11_4]
  have e5 : exec O0 n11_5 [(0, .l (items ours)), (1, .l (items theirs)), (4, .l []), (5, .l []), (6, .l []), (7, tab3 theirs g1 g2 g3), (8, .mp [] []), (9, .ow 38 []), (22, .b false)] = some (.n, [(0, .l (items ours)), (1, .l (items theirs)), (4, .l []), (5, .l []), (6, .l []), (7, tab3 theirs g1 g2 g3), (8, .mp [] []), (9, .ow 38 []), (10, .i .i64 1), (22, .b false)]) := by simp [n11_5]
  refine WG.seqC e3 (WG.seqC e4 (WG.seq' (WG.seqC e5 (WG.blk' ?_))))
  refine outer ours theirs g1 g2 g3 ho hl hdo hdt hT (by simp) fun s2 hT2 hlen => ?_
  simp only [↓reduceIte]
  have hsr := sortTRun_enc (all3 ours theirs).out (by omega) hs
  have e18 : exec O0 n11_18 [(0, .l (items ours)), (1, .l (items theirs)), (7, tab3 theirs g1 g2 g3), (8, .mp (ints (all3 ours theirs).met) (trues (all3 ours theirs).met)), (9, .ow 38 (encL triV (all3 ours theirs).out))] = some (.n, [(0, .l (items ours)), (1, .l (items theirs)), (7, tab3 theirs g1 g2 g3), (8, .mp (ints (all3 ours theirs).met) (trues (all3 ours theirs).met)), (9, .ow 38 (encL triV (isortT (all3 ours theirs).out)))]) := by
    simp [n11_18, mut30, hsr]
  refine WG.seqC e18 (WG.seq' ?_)
  have hfz : frzBut 8 [(0, .l (items ours)), (1, .l (items theirs)), (7, tab3 theirs g1 g2 g3), (8, .mp (ints (all3 ours theirs).met) (trues (all3 ours theirs).met)), (9, .ow 38 (encL triV (isortT (all3 ours theirs).out)))] = [(0, .l (items ours)), (1, .l (items theirs)), (7, tab3 theirs g1 g2 g3), (8, .mp (ints (all3 ours theirs).met) (trues (all3 ours theirs).met)), (9, .l (encL triV (isortT (all3 ours theirs).out)))] := by simp [frzBut]
  refine ⟨ints (all3 ours theirs).met, trues (all3 ours theirs).met, by rw [hfz]; simp, by rw [hfz]; simp [bareBut], fun x hx => ?_, fun g s3 hs3 => ?_⟩
  · obtain ⟨k, _, rfl⟩ := List.mem_map.1 hx; rfl
  · rw [hfz]
    have hnone : getM g s2 = none ∧ s3 = (g, ints (all3 ours theirs).met, trues (all3 ours theirs).met) :: s2 := by
      unfold addM at hs3
      split at hs3
      · rename_i hn
        exact ⟨Option.isNone_iff_eq_none.1 hn, (Option.some.inj hs3).symm⟩
      · cases hs3
    obtain ⟨hn, rfl⟩ := hnone
    have h1 : isSet ((g, ints (all3 ours theirs).met, trues (all3 ours theirs).met) :: s2) g (all3 ours theirs).met := by unfold isSet; simp [getM]
    have h2 : isSet ((g, ints (all3 ours theirs).met, trues (all3 ours theirs).met) :: s2) g3 (all3 ours theirs).tak := by
      have := hT2.set
      unfold isSet at this ⊢
      have hne : ¬ g = g3 := fun e => by rw [e, this] at hn; cases hn
      simp only [getM, if_neg hne]
      exact this
    obtain ⟨env1, hd, hk⟩ := d19 ours theirs g1 g2 g3 g ho hl h1 h2 (isortT (all3 ours theirs).out)
    refine ⟨readO _, env1, _, ?_, it11_19 _ _, .inr rfl, ?_⟩
    · have hp : put 8 (.mr (some g)) [(0, .l (items ours)), (1, .l (items theirs)), (7, tab3 theirs g1 g2 g3), (8, .mp (ints (all3 ours theirs).met) (trues (all3 ours theirs).met)), (9, .l (encL triV (isortT (all3 ours theirs).out)))] = ER ours theirs g1 g2 g3 g (isortT (all3 ours theirs).out) := by simp
      rw [hp]; exact hd
    · refine WG.endC (e := .r) (env1 := _) (by simp only [n11_20, exec_ret]; rfl) ?_
      refine ⟨fun j h => (by cases h), ?_⟩
      rw [hk]
      simp [retV, resVs, resV, matchV]
end Go.Proofs.Ytmhpmghhgppdnaa
