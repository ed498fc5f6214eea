/-
  A step: a slice of the call's own, made at a size that the code reckons. No program is named here.
-/
import Derived.Test.YtdlpbedneamebaaGreatDoorVmI
import Derived.Laws.MakeOwn
import Derived.Laws.CopyRow
set_option linter.unusedSectionVars false
namespace Go.VM
open Go.RowKit
variable [Glob]
section
variable {P : Program} {nt : Nat} {keep : List Nat} {S : Nat → Prop} {base : Nat} {w0 : World} {env env' : Env} {a : Act} {w : World} {o : Orc}
omit [Glob] in
theorem made_flat {z : Array Value} (hz : 0 < z.size) : ∀ n : Nat, (madeCells z (n * z.size)).toList = (List.replicate n z.toList).flatten := by
  intro n
  have h1 : (List.replicate n z.toList).flatten.length = n * z.size := by simp
  apply List.ext_getElem?
  intro i
  by_cases hi : i < n * z.size
  · have hl : (madeCells z (n * z.size)).toList[i]? = some z[i % z.size]! := by
      rw [Array.getElem?_toList]
      simp [madeCells, hi]
    rw [hl]
    have hm : i % z.size < z.size := Nat.mod_lt _ hz
    have hr : (List.replicate n z.toList).flatten[i]? = z.toList[i % z.size]? := by
      clear hl h1
      induction n generalizing i with
      | zero => omega
      | succ n ih =>
        rw [List.replicate_succ, List.flatten_cons]
        by_cases hi2 : i < z.size
        · rw [List.getElem?_append_left (by simpa using hi2), Nat.mod_eq_of_lt hi2]
        · rw [List.getElem?_append_right (by simpa using hi2)]
          have h3 : i - z.toList.length = i - z.size := by simp
          rw [h3, ih (i := i - z.size) (by rw [Nat.succ_mul] at hi; omega) (Nat.mod_lt _ hz)]
          congr 1
          exact (Nat.mod_eq_sub_mod (by omega)).symm
    rw [hr, Array.getElem?_toList, Array.getElem?_eq_getElem hm, getElem!_pos z (i % z.size) hm]
  · rw [List.getElem?_eq_none (by rw [Array.length_toList, size_madeCells]; omega), List.getElem?_eq_none (by omega)]
theorem step_mks (hF : FI P nt keep S base w0 env a w) {d : Nat} (hk : d ∈ keep) (hd : d < nt) {t e : TypeId} {k b x : Nat} {z : V} {oper : Oper} (hop : oper.op = .makeSlice t (.tmp x) (.tmp x))
    (hkc : elemCells P t = some k) (hbc : elemBytes P t = some b) (hel : elemTy P t = some e) (hz : zeroV P e = some z) (hc : 0 < k ∧ 0 < b ∧ z.cells.length = k ∧ z.cells.all V.cell = true)
    (hst : stepS o env (.mks d e b z (.t x)) = some env') : ∃ u w1, (execOp a.eval oper).run P w = .ok (.value u) w1 ∧ FI P nt keep S base w0 env' (a.put (some d) u) w1 := by
  simp only [stepS] at hst
  cases hl : lookS env (.t x) with
  | none => rw [hl] at hst; cases hst
  | some v =>
    rw [hl] at hst
    simp only [Option.bind_some] at hst
    have hr := src_val hF (x := .tmp x) (s := .t x) rfl hl
    split at hst
    · rename_i j
      split at hst
      · rename_i hj
        cases hst
        obtain ⟨c1, c2, c3, c4⟩ := hc
        have hu : P.underlying t = some (.slice e) := by
          unfold elemTy at hel
          split at hel
          · rename_i e' hu; cases hel; exact hu
          · cases hel
        obtain ⟨it, hi, hzv⟩ : ∃ it, P.info? e = some it ∧ it.zero.bind ofConst = some z := by
          unfold zeroV at hz
          cases hi : P.info? e with
          | none => rw [hi] at hz; cases hz
          | some it => rw [hi] at hz; exact ⟨it, rfl, hz⟩
        obtain ⟨zv, hzz, hcz⟩ : ∃ zv, it.zero = some zv ∧ ofConst zv = some z := by
          cases hq : it.zero with
          | none => rw [hq] at hzv; cases hzv
          | some zv => rw [hq] at hzv; exact ⟨zv, rfl, hzv⟩
        have hsz : it.size = k := by
          have : (P.info? e).map (·.size) = some k := by simpa [elemCells, hu] using hkc
          rw [hi] at this; simpa using this
        have hbt : it.bytes = b := by
          have : (P.info? e).map (·.bytes) = some b := by simpa [elemBytes, hu] using hbc
          rw [hi] at this; simpa using this
        have hke : P.cellsOf e = k := by simp [Program.cellsOf, hi, hsz]
        obtain ⟨n, rfl⟩ : ∃ n : Nat, j = n := ⟨j.toNat, by omega⟩
        have hx : a.eval (.tmp x) = .int .i64 (n : Int) := by
          generalize a.eval (.tmp x) = y at hr
          cases hr; rfl
        have hnb : (n : Int) ≤ (n : Int) * (b : Int) := by
          have h1 : n * 1 ≤ n * b := Nat.mul_le_mul_left n c2
          have h2 : ((n * 1 : Nat) : Int) ≤ ((n * b : Nat) : Int) := Int.ofNat_le.2 h1
          simpa using h2
        have hmul : (b : Int) * (n : Int) = (n : Int) * (b : Int) := Int.mul_comm _ _
        have hrun := run_make (P := P) w t e it zv hu hi hzz .i64 .i64 (n : Int) (n : Int) (by omega) (Int.le_refl _) (by rw [hbt, hmul]; omega) (by omega)
        simp only [Int.toNat_natCast] at hrun
        rw [hsz] at hrun
        have hrepz : Reps (fun _ => True) w zv.cells.toList z.cells := (ofConst_rep hcz).cells
        have hzs : zv.cells.size = k := by
          have := hrepz.1
          rw [Array.length_toList] at this
          omega
        have hex : (execOp a.eval oper).run P w = .ok (.value (.slice (some ⟨w.heap.size, 0, none⟩) n n)) (w.alloc (.cells (madeCells zv.cells (n * k)) e)) := by
          simp only [execOp, hop, hx, Sem.run_bind, hrun, Result.andThen_ok, Sem.run_pure]
        have hbw : Below w.heap.size w (w.alloc (.cells (madeCells zv.cells (n * k)) e)) := (Below.refl _ _).alloc (Nat.le_refl _) _
        refine ⟨_, _, hex, hF.put_own hk hd hbw rfl (fun g hg => by simp only [blkOf, Option.some.injEq] at hg; omega) fun Im h1 h2 hE => ?_⟩
        have hall1 : ∀ y ∈ List.replicate (n : Int).toNat z, y.cells.length = P.cellsOf e := fun y hy => by
          rw [(List.mem_replicate.1 hy).2, c3, hke]
        have hall2 : ∀ y ∈ flatc (List.replicate (n : Int).toNat z), y.cell = true := fun y hy => by
          obtain ⟨q, hq, hy⟩ := List.mem_flatMap.1 hy
          rw [(List.mem_replicate.1 hq).2] at hy
          exact List.all_eq_true.1 c4 y hy
        refine ⟨Im, fun _ h => h, fun b h => ⟨.inl h, Nat.lt_of_lt_of_le (h2 b h).2 hbw.size⟩, ⟨(madeCells zv.cells (n * k)).toList, ?_, hall1, hall2, ?_⟩, fun g hg hI => ?_⟩
        · have hr2 := World.ownsRow_lit (base := base) (e := e) (size := P.cellsOf e) w (madeCells zv.cells (n * k)) n hF.bsz (by simp only [maxLen]; omega) (by rw [size_madeCells, hke])
          simpa using hr2
        · have hmf : (madeCells zv.cells (n * k)).toList = (List.replicate n zv.cells.toList).flatten := by
            have := made_flat (z := zv.cells) (by omega) n
            rwa [hzs] at this
          rw [hmf, Int.toNat_natCast]
          have hrep1 : Reps Im (w.alloc (.cells (madeCells zv.cells (n * k)) e)) zv.cells.toList z.cells := (ofConst_rep hcz).cells
          clear hmf hall1 hall2 hrun hex hbw hnb hmul hj hx hr hl
          generalize (w.alloc (.cells (madeCells zv.cells (n * k)) e)) = w2 at hrep1 ⊢
          induction n with
          | zero => exact Reps.nil
          | succ n ih =>
            rw [List.replicate_succ, List.replicate_succ, List.flatten_cons, flatc_cons]
            exact Reps.append hrep1 (ih)
        · simp only [blkOf, Option.some.injEq] at hg
          subst hg
          exact absurd (h2 _ hI).2 (Nat.lt_irrefl _)
      · cases hst
    · cases hst
end
end Go.VM
/-
  Steps: copy of elements into a slice of the call's own. No program is named here.
-/
namespace Go.VM
open Go.RowKit
variable [Glob]
section
variable {P : Program} {nt : Nat} {keep : List Nat} {S : Nat → Prop} {base : Nat} {w0 : World} {env env' : Env} {a : Act} {w : World} {o : Orc}
theorem copy_row_run (w : World) (dT sT ty elem : TypeId) (g dLen dCap k : Nat) (ad : Option Addr) (sLen sCap : Nat) (cur : Array Value) (t : TypeId) (cs : List Value)
    (hu : P.underlying dT = some (.slice elem)) (hs : (P.info? elem).map (·.size) = some k)
    (hg : w.heap[g]? = some (.cells cur t (0, 0))) (hn : cs.length = Nat.min sLen dLen * k)
    (hsrc : cs = [] ∨ ∃ a0, ad = some a0 ∧ ∀ j v, cs[j]? = some v → w.cell? (a0.add j) = some v) (h0 : ad = none → sLen = 0) (hfit : cs.length ≤ cur.size) (h1 : ∀ v ∈ cs, v.oneCell' = true) :
    (Builtin.copy_ #[dT, sT] ty #[.slice (some ⟨g, 0, none⟩) dLen dCap, .slice ad sLen sCap]).run P w =
      .ok (goInt (Nat.min sLen dLen)) (w.setRow g (cs ++ cur.toList.drop cs.length).toArray) := by
  have hst := run_storeCells_at P g 0 t cs 0 cur w hg (by simpa using hfit) h1
  cases hq : P.info? elem with
  | none => simp [hq] at hs
  | some i =>
    have hi : i.size = k := by simpa [hq] using hs
    cases ad with
    | none =>
      have hs0 := h0 rfl
      subst hs0
      have hc0 : cs = [] := List.eq_nil_of_length_eq_zero (by rw [hn]; simp)
      subst hc0
      simp [Builtin.copy_, run_underlying hu, Builtin.lenOf, Builtin.firstCells, sizeOf, typeInfo, hq] at hst ⊢
      rw [hst]; rfl
    | some a0 =>
      have hl := run_loadCells_list (P := P) w a0 cs (fun j v hj => by
        rcases hsrc with rfl | ⟨a1, he, hh⟩
        · simp at hj
        · cases he; exact hh j v hj)
      simp [Builtin.copy_, run_underlying hu, Builtin.lenOf, Builtin.firstCells, sizeOf, typeInfo, hq, hi, ← hn, hl] at hst ⊢
      rw [hst]; rfl
theorem step_cpy (hF : FI P nt keep S base w0 env a w) {d : Option Nat} (hkd : ∀ d', d = some d' → d' ∈ keep ∧ d' < nt) {dT sT : TypeId} {x y : Operand} {e k n : Nat} {sy : Src} {oper : Oper} (hop : oper.op = .call { callee := .builtin .copy, args := #[x, y], argTypes := #[dT, sT] })
    (hu : P.underlying dT = some (.slice e)) (hi : (P.info? e).isSome = true) (hk : P.cellsOf e = k) (hs : src x = some (.t n)) (hsy : src y = some sy) (hst : stepS o env (.cpy d e k (.t n) sy) = some env') :
    ∃ u w1, (execOp a.eval oper).run P w = .ok (.value u) w1 ∧ FI P nt keep S base w0 env' (a.put d u) w1 := by
  have hxt := src_tmp hs
  subst hxt
  simp only [stepS] at hst
  cases hl : lookS env sy with
  | none => rw [hl] at hst; cases hst
  | some yv =>
  rw [hl] at hst
  simp only [Option.bind_some] at hst
  cases how : rowOf env n with
  | none => rw [how] at hst; cases hst
  | some m =>
  rw [how] at hst
  simp only [Option.bind_some] at hst
  cases hm : get m env with
  | none => rw [hm] at hst; cases hst
  | some q =>
  rw [hm] at hst
  simp only [Option.bind_some] at hst
  split at hst
  · rename_i ys e' es
    split at hst
    · rename_i hc
      cases hst
      obtain ⟨rfl, hpos, hkp, hall⟩ := hc
      have hall1 : ∀ x ∈ ys, x.cells.length = k := fun x hx => by simpa using List.all_eq_true.1 hall x hx
      obtain ⟨Im, hI1, hI2, hE⟩ := hF.ents
      obtain ⟨ad, c, news, hye, hyr, hyc, hycell⟩ := lookS_row hE hsy hl
      obtain ⟨u, hum, hent⟩ := hE.ent m _ hm
      have hx : a.eval (.tmp n) = u := by
        unfold rowOf at how
        split at how
        · rename_i q hx
          cases how
          obtain ⟨u', hu', he'⟩ := hE.ent n _ hx
          have := hum.symm.trans he'; cases this
          exact eval_tmp hu'
        · rename_i hx
          cases how
          exact eval_tmp hum
        · cases how
      obtain ⟨⟨ws, hvo, hvk, hvc, hvr⟩, hng⟩ := hent
      rw [hk] at hvo hvk
      have hbu := ownsRow_blk hvo
      have hvo' := hvo
      obtain ⟨hwl, hvd⟩ := hvo
      rcases hvd with ⟨rfl, h0⟩ | ⟨g, cap, cur, rfl, hbg, hg, hnc, hcm, hcs, htk⟩
      · omega
      have hnl : news.length = ys.length * k := by rw [hyr.1, flatc_length hall1]
      have hn1 := hyr.oneCell hyc
      have hcl : (news.take (es.length * k)).length = Nat.min ys.length es.length * k := by
        rw [List.length_take, hnl]
        show min (es.length * k) (ys.length * k) = min ys.length es.length * k
        rcases Nat.le_total ys.length es.length with h | h
        · rw [Nat.min_eq_right (Nat.mul_le_mul_right _ h), Nat.min_eq_left h]
        · rw [Nat.min_eq_left (Nat.mul_le_mul_right _ h), Nat.min_eq_right h]
      have hle : (news.take (es.length * k)).length ≤ es.length * k := by rw [List.length_take]; exact Nat.min_le_left _ _
      have hcap : es.length * k ≤ cur.size := by rw [hcs]; exact Nat.mul_le_mul_right _ hnc
      obtain ⟨ti, hti⟩ := Option.isSome_iff_exists.1 hi
      have hrun := copy_row_run (P := P) w dT sT oper.type e' g es.length cap k ad ys.length c cur e' (news.take (es.length * k)) hu (by rw [hti]; simp [← hk, Program.cellsOf, hti]) hg hcl (by
          rcases hycell with rfl | ⟨a0, h1, h2⟩
          · left; exact List.eq_nil_of_length_eq_zero (by rw [hcl]; simp)
          · right; exact ⟨a0, h1, fun j v hj => h2 j v (by
              rw [List.getElem?_take] at hj
              split at hj
              · exact hj
              · cases hj)⟩) (fun h => by
          rcases hycell with rfl | ⟨a0, h1, _⟩
          · rfl
          · rw [h] at h1; cases h1) (Nat.le_trans hle hcap) (fun v hv => hn1 v (List.mem_of_mem_take hv))
      refine ⟨goInt (Nat.min ys.length es.length), w.setRow g (news.take (es.length * k) ++ cur.toList.drop (news.take (es.length * k)).length).toArray, ?_, ?_⟩
      · simp only [execOp, hop, resolve, invoke, builtin, Sem.run_bind, Sem.run_pure, Result.andThen_ok, List.map_toArray, List.map_cons, List.map_nil, hx, hye, hrun]
      have hdrop : ws.drop (news.take (es.length * k)).length = ws.drop (ys.length * k) := by
        rcases Nat.le_total ys.length es.length with h | h
        · rw [hcl, show Nat.min ys.length es.length = ys.length from Nat.min_eq_left h]
        · rw [hcl, show Nat.min ys.length es.length = es.length from Nat.min_eq_right h, List.drop_eq_nil_of_le (by omega), List.drop_eq_nil_of_le (by rw [hwl]; exact Nat.mul_le_mul_right _ h)]
      have hrr : Reps Im w (news.take (es.length * k) ++ ws.drop (ys.length * k)) (flatc (ys.take es.length ++ es.drop ys.length)) := by
        rw [flatc_append, ← flatc_take es.length hall1, ← flatc_drop ys.length hvk]
        exact (hyr.take _).append (hvr.drop _)
      have hlen' : (ys.take es.length ++ es.drop ys.length).length = es.length := by
        rw [List.length_append, List.length_take, List.length_drop]; omega
      have hnewrow : (w.setRow g (news.take (es.length * k) ++ cur.toList.drop (news.take (es.length * k)).length).toArray).ownsRow base e' k (.slice (some ⟨g, 0, none⟩) es.length cap) (ys.take es.length ++ es.drop ys.length).length (news.take (es.length * k) ++ ws.drop (ys.length * k)) := by
        rw [hlen']
        refine ⟨?_, .inr ⟨g, cap, _, rfl, hbg, setRow_heap w g cur _ e' _ hg, hnc, hcm, ?_, ?_⟩⟩
        · rw [← hdrop, List.length_append, List.length_drop, hwl]; omega
        · simp only [List.size_toArray, List.length_append, List.length_drop, Array.length_toList]; omega
        · rw [← hdrop, ← htk]
          simp only
          rw [List.take_append, List.take_of_length_le hle, List.drop_take]
      have hgb : w.grownBy (w.setRow g (news.take (es.length * k) ++ cur.toList.drop (news.take (es.length * k)).length).toArray) (some g) :=
        ⟨rfl, rfl, rfl, by simp, fun b hb hne => setRow_other w g b _ (fun e => hne (by rw [e]))⟩
      have hs1 : Srt (del m env) := hF.srt.filter _
      have hs2 : Srt (purge m (del m env)) := hs1.filter _
      have hsub2 : ∀ q x, get q (purge m (del m env)) = some x → get q env = some x ∧ q ≠ m ∧ x.names ≠ some m := by
        intro q x hq
        rw [get_purge hs1, get_del hF.srt] at hq
        by_cases hqm : q = m
        · rw [if_pos hqm] at hq; cases hq
        · rw [if_neg hqm] at hq
          cases hq' : get q env with
          | none => rw [hq'] at hq; cases hq
          | some x' =>
            rw [hq'] at hq
            simp only [Option.bind_some] at hq
            split at hq
            · cases hq
            · cases hq; exact ⟨rfl, hqm, ‹_›⟩
      have hsup2 : ∀ q x, q ≠ m → get q env = some x → x.names ≠ some m → get q (purge m (del m env)) = some x := by
        intro q x hqm hq h1
        rw [get_purge hs1, get_del hF.srt, if_neg hqm, hq]
        simp only [Option.bind_some]
        rw [if_neg h1]
      have hrow2 : ∀ g', some g = some g' → base ≤ g' ∧ ¬ Im g' ∧ ∀ n' c, ¬ Owns (purge m (del m env)) (tm a) n' c g' := by
        intro g' hg'
        cases hg'
        have ho : Owns env (tm a) m none g := ⟨_, _, hm, rfl, hum, by rw [← hbu]; rfl⟩
        have hlt := Owns.lt hE ho
        refine ⟨hlt.2.1, hlt.2.2, fun q c' hq => ?_⟩
        have hqo : Owns env (tm a) q c' g ∧ q ≠ m := by
          cases c' with
          | none => obtain ⟨x, v, hx, h⟩ := hq; exact ⟨⟨x, v, (hsub2 _ _ hx).1, h⟩, (hsub2 _ _ hx).2.1⟩
          | some j => obtain ⟨zs, us, x, v, hx, h⟩ := hq; exact ⟨⟨zs, us, x, v, (hsub2 _ _ hx).1, h⟩, (hsub2 _ _ hx).2.1⟩
        exact hqo.2 (hE.apart _ _ _ _ _ hqo.1 ho).1
      obtain ⟨hkm, hdm⟩ := hF.keys m _ hm
      have hFm := hF.grown hkm hdm hs2 (fun q x h => (hsub2 q x h).1) (fun q x j hq hj => by
        obtain ⟨g1, g2, g3⟩ := hsub2 q x hq
        obtain ⟨z, hz, hzn⟩ := hE.closed q x j g1 hj
        exact ⟨z, hsup2 j z (fun e => g3 (by rw [← e]; exact hj)) hz (by rw [hzn]; simp), hzn⟩) hI1 hI2 hE (row := some g) hrow2 hgb (v' := .slice (some ⟨g, 0, none⟩) es.length cap) (fun g' h => .inl (by simpa [Value.ownBlock] using h)) (by rw [hk]; exact hnewrow) (fun x hx => by
          rw [hk]
          rcases List.mem_append.1 hx with h | h
          · exact hall1 x (List.mem_of_mem_take h)
          · exact hvk x (List.mem_of_mem_drop h)) (fun x hx => by
          rw [flatc_append, ← flatc_take es.length hall1, ← flatc_drop ys.length hvk] at hx
          rcases List.mem_append.1 hx with h | h
          · exact hyc x (List.mem_of_mem_take h)
          · exact hvc x (List.mem_of_mem_drop h)) hrr
      rw [put_same' hum] at hFm
      cases d with
      | none => exact hFm
      | some d0 =>
        obtain ⟨h1, h2⟩ := hkd d0 rfl
        exact hFm.put_flat (S' := S) (w' := w) h1 h2 (Below.refl _ _) (.i _ _) rfl
    · cases hst
  · cases hst
end
end Go.VM
