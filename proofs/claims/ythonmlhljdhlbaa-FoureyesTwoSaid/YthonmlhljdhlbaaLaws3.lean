/-
  The law on two people, over what the functions compute.
-/
import Derived.Test.YthonmlhljdhlbaaLaws2
namespace Go.Proofs.Ythonmlhljdhlbaa
open Go.VM
theorem one_slice {α : Type} (f : α → V) (l : List α) (k : Nat) (hk : k < l.length) : ((encL f l).take (k + 1)).drop k = [f l[k]] := by
  refine List.ext_getElem (by simp; omega) fun j h1 h2 => ?_
  simp only [List.length_singleton, Nat.lt_one_iff] at h2
  subst h2
  simp
theorem bnds_one (n k : Nat) (hk : k < n) : bnds n true true [.i .i64 k, .i .i64 ((k : Int) + 1)] = some (k, k + 1) := by
  simp only [bnds]
  rw [if_pos (by omega)]
  simp
theorem slc_one (l : List Request) (k : Nat) (hk : k < l.length) : opQ O (.slc 35 true true) [.l (enc l), .i .i64 k, .i .i64 ((k : Int) + 1)] = some (.l [l[k].v]) := by
  have h : opQ O (.slc 35 true true) [.l (enc l), .i .i64 k, .i .i64 ((k : Int) + 1)] = if (enc l).all (fun x => x.cells.length == 35) then (bnds (enc l).length true true [.i .i64 k, .i .i64 ((k : Int) + 1)]).map fun p => .l (((enc l).take p.2).drop p.1) else none := rfl
  rw [h, if_pos (Request.all_len l), encL_length, bnds_one _ _ hk, Option.map_some, one_slice Request.v l k hk]
set_option maxHeartbeats 16000000 in
set_option maxRecDepth 20000 in
theorem l6 (l m : List Request) (us : List User) (id : Int) (name : List UInt8) (d : Int) (i : Nat) (r : Request) (hi : i < l.length) (hr : l[i] = r) (hml : m.length = l.length) (hmi : ∀ h : i < m.length, m[i] = { r with state := 2, checker := name }) (hmk : ∀ k, k ≠ i → ∀ (h : k < l.length) (h' : k < m.length), m[k] = l[k]) (hlen : l.length ≤ 100) (hf : Few l) (hul : us.length ≤ 40) (h1 : r.state = 1) (hid : r.id = id) (hd : ¬ r.until' < d) (h0 : mayA us name r = 0) :
    loopK O [0, 1, 5, 7, 8, 10, 11] body6_1 [(0, .l (enc l)), (1, .l (encU us)), (5, .bx [.i .i64 id, .s name, .i .i64 d]), (7, .ow 35 (enc m)), (8, .bx r.command.cells), (10, .i .i64 0), (11, .i .i64 0)]
      = some (.e 0, [(0, .l (enc l)), (5, .bx [.i .i64 id, .s name, .i .i64 d]), (7, .ow 35 (enc m)), (10, .i .i64 1)]) := by
  have hhas : has us name 32 = true := by
    unfold mayA at h0; split at h0
    · simp at h0
    · cases h : has us name 32 with
      | true => rfl
      | false => contradiction
  have hgot : (got us name).2 = true := by
    unfold has at hhas; simp at hhas; exact hhas.1.1
  have hne : name ≠ r.maker := by
    unfold mayA at h0; rw [hhas] at h0; simp at h0
    intro h; simp [h] at h0
  have hlim : ¬ (got us name).1.limit < amount r.command := by
    unfold mayA at h0; rw [hhas] at h0; simp [hne] at h0
    omega
  have hfr : few r.command := hr ▸ hf _ (List.getElem_mem hi)
  have := loopK_run (o := O) (kin := [0, 1, 5, 7, 8, 10, 11]) (c := body6_1) (fun k => [(0, .l (enc l)), (1, .l (encU us)), (5, .bx [.i .i64 id, .s name, .i .i64 d]), (7, .ow 35 (enc m)), (8, .bx r.command.cells), (10, .i .i64 (if i < k then 1 else 0)), (11, .i .i64 k)]) l.length (.e 0, [(0, .l (enc l)), (5, .bx [.i .i64 id, .s name, .i .i64 d]), (7, .ow 35 (enc m)), (10, .i .i64 1)]) (by simp) (fun k hk => by
    have hw := wrap_i64 (k + 1) (by omega)
    have hk' : k < m.length := by omega
    have hs1 := slc_one l k hk
    have hs2 := slc_one m k hk'
    have hfk : Few [l[k]] := fun x hx => by simp at hx; subst hx; exact hf _ (List.getElem_mem hk)
    have h15 := e15 [l[k]] [m[k]] (by simp) hfk
    simp only [encL_cons, encL_nil] at h15
    by_cases hki : k = i
    · subst hki
      have hmi := hmi hk'
      rw [hmi] at hs2 h15
      rw [hr] at hs1 h15
      obtain ⟨rid, rday, runtil, rstate, rmaker, rchecker, rcommand⟩ := r
      simp only at h1 hid hd hne hlim hfr hmi hs2 h15 hs1
      subst h1 hid
      have h22 := e22 us name hul
      have h23 := e23 us name 32 hul
      rw [hhas] at h23
      have h21 := e21 rcommand rcommand hfr
      have h15b := e15 [(⟨rid, rday, runtil, 1, rmaker, rchecker, rcommand⟩ : Request)] [⟨rid, rday, runtil, 1, rmaker, rchecker, rcommand⟩] (by simp) (fun x hx => by simp at hx; subst hx; exact hfr)
      simp only [encL_cons, encL_nil, Request.v, Request.cells] at h15b
      unfold gotV at h22
      generalize got us name = g at h22 hgot hlim
      obtain ⟨⟨gn, gr, gl⟩, gb⟩ := g
      simp only at hgot hlim h22
      subst hgot
      simp (config := { maxSteps := 4000000 }) [body6_1, hk, hk', hw, hs1, hs2, hml, h15, hmi, hr, h22, h23, h21, h15b, hne, Ne.symm hne, hlim, hd, User.v, show IntKind.i64.wrap 1 = 1 from rfl]
    · have hmk := hmk k hki hk hk'
      rw [hmk] at hs2 h15
      by_cases hlt : i < k
      · have h2 : i < k + 1 := by omega
        simp [body6_1, hk, hk', hw, hs1, hs2, hml, h15, hlt, h2]
      · have h2 : ¬ i < k + 1 := by omega
        simp [body6_1, hk, hk', hw, hs1, hs2, hml, h15, hlt, h2]) (by simp [body6_1, hi]) (by simp)
  exact this
set_option maxHeartbeats 16000000 in
theorem e6 (l : List Request) (us : List User) (id : Int) (name : List UInt8) (d : Int) : O 6 [.l (enc l), .l (encU us), .a [.i .i64 id, .s name, .i .i64 d]] = some (.b true) := by
  refine orun (fc := code6) rfl rfl rfl ?_
  cases hg : great l with
  | true => simp [code6, hg, live]
  | false =>
    cases hu : ugreat us with
    | true => simp [code6, hg, hu, live]
    | false =>
      by_cases hn : (100 : Int) < (name.length : Int)
      · simp [code6, hg, hu, hn, live]
      · obtain ⟨hlen, hf⟩ := not_great hg
        have hul := ugreat_len hu
        have h17 := e17 l us id name d hlen hf hul
        have hcz := e21 cz cz (by simp [few, cz])
        rw [cz_cells] at hcz
        have hK : (approve l us id name d).2.2 = 0 → chk l = 0 → nameB name = true → chk (approve l us id name d).1 = 0 := fun h hc hb => chk_dec h hc hb (.inl ⟨rfl, fun r h0 h => by
          unfold mayA at h0; rw [if_pos h] at h0
          split at h0 <;> simp at h0⟩)
        unfold decV at h17
        rcases dec_cases l id name d 2 (mayA us name) with ⟨e, he, hd⟩ | ⟨i, hi, hp, hid, h1, h2, h0, hd⟩
        · have hd : approve l us id name d = ([], cz, e) := hd
          rw [hd] at h17
          simp [code6, hg, hu, hn, h17, cz_cells, he, hcz, live]
        · have hd : approve l us id name d = (l.set i { l[i] with state := 2, checker := name }, l[i].command, 0) := hd
          rw [hd] at h17 hK
          have hK : chk l = 0 → nameB name = true → chk (l.set i { l[i] with state := 2, checker := name }) = 0 := hK rfl
          have hl := l6 l (l.set i { l[i] with state := 2, checker := name }) us id name d i l[i] hi rfl (by simp) (fun h => by simp) (fun k hk h h' => by rw [List.getElem_set_ne (Ne.symm hk)]) hlen hf hul h1 hid h2 h0
          have hx10 := e10 (l.set i { l[i] with state := 2, checker := name })
          have hxl : (l.set i { l[i] with state := 2, checker := name }).length = l.length := by simp
          simp only at h17
          generalize l.set i { l[i] with state := 2, checker := name } = m at *
          by_cases hc : chk l = 0
          · cases hb : nameB name with
            | true =>
              rw [hK hc hb] at hx10
              simp [code6, hg, hu, hn, h17, e11 l, hc, hb, hxl, exec_loopK, hl, hx10, live]
            | false => simp [code6, hg, hu, hn, h17, e11 l, hc, hb, hxl, exec_loopK, hl, live]
          · simp [code6, hg, hu, hn, h17, e11 l, hc, hxl, exec_loopK, hl, live]
end Go.Proofs.Ythonmlhljdhlbaa
