/-
  The library's slices.Clone, at any type of slices. No program is named here.
-/
import Derived.Test.YtdlpbedneamebaaGreatDoorVmL
import Derived.Lib.LazyBuf
import Derived.Test.YtdlpbedneamebaaGreatDoorVmM
import Derived.Test.YtdlpbedneamebaaGreatDoorVmN
set_option linter.unusedSectionVars false
namespace Go.VM
open Go.RowKit
variable [Glob]

section
variable {P : Program} {nt : Nat} {keep : List Nat} {S : Nat → Prop} {base : Nat} {w0 : World} {env env' : Env} {a : Act} {w : World} {o : Orc}

theorem FI.put_dead (hF : FI P nt keep S base w0 env a w) {d : Nat} (hd : get d env = none) (hn : d < nt) (u : Value) : FI P nt keep S base w0 env (a.put (some d) u) w := by
  obtain ⟨Im, hI1, hI2, hE⟩ := hF.ents
  have hda : d < a.tmps.size := by rw [hF.size]; exact hn
  refine ⟨hF.srt, by simpa [Act.put] using hF.size, hF.defers, hF.below, hF.kept, hF.bsz, hF.keys, Im, hI1, hI2, hE.congr fun n x hx => ?_⟩
  exact (tm_put hda n).trans (if_neg fun e => by rw [e, hd] at hx; cases hx)

def cloneBody (t tb : TypeId) (p1 p2 p3 p4 p5 : Array Edge) : Code := ((Code.region 0
            #[{ dst := some 2, op := Op.assign (Operand.const (Value.slice none 0 0)), type := t,
                pos := "slices.go:355", after := #[], guard := none }]
            false).seq
        (((Code.region 1
                  #[{ dst := some 3, op := Op.move (Operand.tmp 0), type := t, pos := "slices.go:357", after := #[],
                      guard := none },
                    { dst := some 4,
                      op := Op.binOp BinOp.eql t (Operand.tmp 3) (Operand.const (Value.slice none 0 0)) t, type := tb,
                      pos := "slices.go:357", after := p1, guard := none }]
                  false).seq
              (Code.cond (Operand.tmp 4)
                ((Code.region 2
                      #[{ dst := some 2, op := Op.assign (Operand.const (Value.slice none 0 0)), type := t,
                          pos := "slices.go:358", after := #[], guard := none }]
                      false).seq
                  Code.ret)
                Code.skip)).seq
          ((Code.region 3
                #[{ dst := some 5, op := Op.buildSlice t 0 #[], type := t, pos := "slices.go:362", after := p2,
                    guard := none },
                  { dst := some 6, op := Op.move (Operand.tmp 0), type := t, pos := "slices.go:362", after := p3,
                    guard := none },
                  { dst := some 7,
                    op :=
                      Op.call
                        { callee := Callee.builtin Builtin.append, args := #[Operand.tmp 5, Operand.tmp 6],
                          argTypes := #[t, t] },
                    type := t, pos := "slices.go:362",
                    after := p4, guard := none },
                  { dst := some 2, op := Op.assign (Operand.tmp 7), type := t, pos := "slices.go:362",
                    after := p5,
                    guard := none }]
                false).seq
            Code.ret)))

theorem clone_PF (hM : MutOK P) {f : FuncId} {fn : Func} {t tb e : TypeId} {p1 p2 p3 p4 p5 : Array Edge} (hf : P.funcs[f]? = some fn) (hbody : fn.body = some (cloneBody t tb p1 p2 p3 p4 p5)) (hres : fn.results = #[.tmp 2]) (hnt : fn.ntmps = 8)
    {k b : Nat} {zc : List V} (hel : elemTy P t = some e) (hkc : elemCells P t = some k) (hbc : elemBytes P t = some b) (hz : zeroCells P e = some zc) (hcond : 0 < k ∧ 0 < b ∧ zc.length = k)
    {es : List V} (hes : ∀ x ∈ es, x.cells.length = k) (hlen : es.length * b ≤ 140737488355328) : PF P f [.l es] (.ow e es) := by
  have hu : P.underlying t = some (.slice e) := by
    unfold elemTy at hel
    split at hel
    · rename_i e' hu; cases hel; exact hu
    · cases hel
  have hele : P.elem t = e := by simp [Program.elem, hu]
  intro S w vs hS hG hr
  obtain ⟨v, rfl⟩ : ∃ v, vs = [v] := by
    match vs, hr with
    | [], hr => exact absurd hr.1 (by simp)
    | [v], _ => exact ⟨v, rfl⟩
    | _ :: _ :: _, hr => exact absurd hr.1 (by simp)
  refine calls_of_wp hf hbody ?_
  rw [hnt]
  have hF := FI.start (P := P) (nt := 8) (keep := [0, 2]) hS hG hr (by rfl) (by simp) (fun n hn => by simp at hn; simp [hn]) (by simp)
  have fin : ∀ (es' : List V) (env' : Env), env' = [(0, .l es), (2, .ow e es')] → es' = es → ∀ (a' : Act) (w' : World), FI P 8 [0, 2] S w.heap.size w env' a' w' → bodyPost P fn (fun e' w' => ∃ v, e' = .returned v ∧ Below w.heap.size w w' ∧
      ∃ S' : Nat → Prop, (∀ b, S b → S' b) ∧ (∀ b, S' b → (S b ∨ w.heap.size ≤ b) ∧ b < w'.heap.size) ∧ Res P S' w' w.heap.size v (.ow e es)) .ret a' w' := by
    intro es' env' he hes' a' w' hF'
    subst he; subst hes'
    exact ret_sound (rs := [.tmp 2]) (by rw [hres]; rfl) hF' (by simp [retV_eq])
  unfold cloneBody
  refine wp_seq (regS_sound (o := o0) (sound0 P hM) (ss := [.as 2 (.c (.ow e []))]) (by simp [toSts, toSt, srcT, constT, hel]) rfl (by rfl) hF fun a1 w1 hF1 => ?_)
  have hF1' : FI P 8 [0, 2] S w.heap.size w [(0, .l es), (2, .ow e [])] a1 w1 := by simpa [put', get, put, dropE, V.names, purge, args0] using hF1
  clear hF1
  obtain ⟨Im, _, _, hE⟩ := hF1'.ents
  obtain ⟨u, hu0, hent⟩ := hE.ent 0 _ (by rfl : get 0 [(0, V.l es), (2, V.ow e [])] = some (.l es))
  obtain ⟨ad, c, _, _, rfl, _, _, _, _, hd⟩ := Rep.slice hent
  have ev0 := eval_tmp hu0
  have h3 : (a1.put (some 3) (.slice ad es.length c)).eval (.tmp 3) = .slice ad es.length c := by
    refine eval_tmp ?_
    exact (tm_put (by rw [hF1'.size]; decide) 3).trans (if_pos rfl)
  refine wp_seq (wp_seq (wp_region ?_))
  have hF2 := (hF1'.put_dead (d := 3) rfl (by decide) (.slice ad es.length c)).put_dead (d := 4) rfl (by decide) (.bool ad.isNone)
  have h4 : ((a1.put (some 3) (.slice ad es.length c)).put (some 4) (.bool ad.isNone)).eval (.tmp 4) = .bool ad.isNone := by
    refine eval_tmp ?_
    refine (tm_put ?_ 4).trans (if_pos rfl)
    simp [Act.put, hF1'.size]
  simp only [List.size_toArray, List.length_cons, List.length_nil, show List.range (0 + 1 + 1) = [0, 1] from rfl, wpOps, List.getElem?_toArray, List.getElem?_cons_zero, List.getElem?_cons_succ, Region.wanted]
  rw [if_pos trivial]
  left
  refine Outc.wp (outc_value (u := .slice ad es.length c) (w1 := w1) (by simp [execOp, ev0]) ?_)
  rw [if_pos trivial]
  left
  refine Outc.wp (outc_value (u := .bool ad.isNone) (w1 := w1) (by
    have hr := run_eql_slice_nil (P := P) w1 t e ad es.length c hu
    have h3c : ∀ c0, (a1.put (some 3) (.slice ad es.length c)).eval (.const c0) = c0 := fun _ => rfl
    simp only [execOp, h3, h3c]
    simp [eqGuard, hr]) ?_)
  refine wp_cond h4 ?_
  cases ad with
  | none =>
    have hes0 : es = [] := by
      rcases hd with h | ⟨_, h, _⟩
      · exact h
      · cases h
    subst hes0
    refine wp_seq (regS_sound (o := o0) (sound0 P hM) (ss := [.as 2 (.c (.ow e []))]) (by simp [toSts, toSt, srcT, constT, hel]) rfl (by rfl) hF2 fun a3 w3 hF3 => ?_)
    exact wp_ret (fin [] _ (by simp [put', get, put, dropE, V.names, purge]) rfl a3 w3 hF3)
  | some ad =>
    refine wp_skip ?_
    have hst : stepsS o0 [.bsl 5 e k [], .mv 6 (.t 0), .app 7 e k b (.t 5) (.t 6), .as 2 (.t 7)] [(0, .l es), (2, .ow e [])] = some [(0, .l es), (2, .ow e es), (6, .l es), (7, .al 2)] := by
      simp [stepsS, stepS, lookSs, freeze, put', get, put, V.names, V.isOwn, lookS, look, rd, frz, rowOf, owner, hlen, purge, del, hand]
      exact hes
    refine wp_seq (regS_sound (o := o0) (sound0 P hM) (ss := [.bsl 5 e k [], .mv 6 (.t 0), .app 7 e k b (.t 5) (.t 6), .as 2 (.t 7)]) ?_ hst (by rfl) hF2 fun a3 w3 hF3 => ?_)
    · simp [toSts, toSt, srcT, src, srcs, hel, hkc, hbc, hele, hz, hcond]
    · exact wp_ret (fin es _ (by simp [dropE, V.names]) rfl a3 w3 hF3)
end
end Go.VM
/-
  Functions by their code; copies of slices. No program is named here.
-/
namespace Go.VM
variable [Glob]
theorem run {tab : Nat → Option FCode} {ext : Orc} {f : Nat} {fc : FCode} (ht : tab f = some fc) {args : List V} {y : V} (hl : args.length = fc.np) (ha : args.all V.arg = true) (h : retE fc.res (exec (den tab ext) fc.body (args0 0 args)) = some y) : den tab ext f args = some y :=
  den_code ht ((bodyV_eq _ _ _ hl ha).trans h)

def cloneF (e k b : Nat) : List V → Option V
  | [.l es] => if es.all (fun x => x.cells.length == k) = true ∧ es.length * b ≤ 140737488355328 then some (.ow e es) else none
  | _ => none
@[simp] theorem cloneF_enc {α : Type} {g : α → V} {e k b : Nat} {l : List α} (h : (encL g l).all (fun x => x.cells.length == k) = true) (hl : l.length * b ≤ 140737488355328) : cloneF e k b [.l (encL g l)] = some (.ow e (encL g l)) := by
  show (if (encL g l).all (fun x => x.cells.length == k) = true ∧ (encL g l).length * b ≤ 140737488355328 then some (V.ow e (encL g l)) else none) = _
  rw [if_pos ⟨h, by simpa using hl⟩]
theorem cloneF_PF {P : Program} (hM : MutOK P) {f : FuncId} {fn : Func} {t tb e : TypeId} {p1 p2 p3 p4 p5 : Array Edge} (hf : P.funcs[f]? = some fn) (hok : okFn P f = true) (hbody : fn.body = some (cloneBody t tb p1 p2 p3 p4 p5)) (hres : fn.results = #[.tmp 2]) (hnt : fn.ntmps = 8)
    {k b : Nat} {zc : List V} (hel : elemTy P t = some e) (hkc : elemCells P t = some k) (hbc : elemBytes P t = some b) (hz : zeroCells P e = some zc) (hcond : 0 < k ∧ 0 < b ∧ zc.length = k) (xs : List V) (y : V) (h : cloneF e k b xs = some y) : okFn P f = true ∧ PF P f xs y := by
  unfold cloneF at h
  split at h
  · rename_i es
    split at h
    · rename_i hc
      cases h
      exact ⟨hok, clone_PF hM hf hbody hres hnt hel hkc hbc hz hcond (fun x hx => by simpa using List.all_eq_true.1 hc.1 x hx) hc.2⟩
    · cases h
  · cases h
theorem PF.frz {P : Program} {f : FuncId} {xs : List V} {e : Nat} {es : List V} (h : PF P f xs (.ow e es)) : PF P f xs (.l es) := by
  intro S w vs hS hG hr
  refine (h S w vs hS hG hr).mono fun r w' ⟨v, he, hb, S', hS1, hS2, hres⟩ => ⟨v, he, hb, fun b => (S b ∨ w.heap.size ≤ b) ∧ b < w'.heap.size, fun b hb' => hS2 b (hS1 b hb'), fun b hb' => hb', ?_⟩
  exact hres.frzt (fun b hb' => hS2 b hb') fun b h1 h2 => ⟨.inr h1, h2⟩
def cloneL (e k b : Nat) (xs : List V) : Option V := (cloneF e k b xs).map frz
@[simp] theorem cloneL_enc {α : Type} {g : α → V} {e k b : Nat} {l : List α} (h : (encL g l).all (fun x => x.cells.length == k) = true) (hl : l.length * b ≤ 140737488355328) : cloneL e k b [.l (encL g l)] = some (.l (encL g l)) := by
  rw [cloneL, cloneF_enc h hl]; rfl
theorem ints_glob {W : World} {g : Nat} {k : IntKind} {zs : List Int} (h0 : 0 < zs.length) (h : ∀ i, i < zs.length → W.cell? ⟨g, i, none⟩ = some (.int k (zs.getD i 0))) : Rep (All W) W (.pointer (some ⟨g, 0, none⟩)) (.r (zs.map (V.i k))) := by
  have hadd : ∀ j, (⟨g, 0, none⟩ : Addr).add j = ⟨g, j, none⟩ := fun j => by
    unfold Addr.add; split
    · rename_i hj; subst hj; rfl
    · simp
  refine .r _ _ (zs.map (Value.int k)) ?_ ?_ (by simp) (fun j u hj => ?_) (fun j u x hj hx => ?_)
  · have := h 0 h0
    unfold World.cell? at this
    cases hh : W.heap[g]? with
    | none => simp [hh] at this
    | some o => exact (Array.getElem?_eq_some_iff.1 hh).1
  · intro x hx
    obtain ⟨n, _, rfl⟩ := List.mem_map.1 hx
    rfl
  · rw [List.getElem?_map] at hj
    cases hz : zs[j]? with
    | none => rw [hz] at hj; cases hj
    | some n =>
      rw [hz] at hj
      cases hj
      rw [hadd, h j (List.getElem?_eq_some_iff.1 hz).1, List.getD_eq_getElem?_getD, hz]; rfl
  · rw [List.getElem?_map] at hj hx
    cases hz : zs[j]? with
    | none => rw [hz] at hj; cases hj
    | some n =>
      rw [hz] at hj hx
      cases hj; cases hx
      exact .i k n
/-! ### Sets of texts: maps of bools -/
abbrev setK (l : List (List UInt8)) : List V := l.map V.s
@[simp] theorem setK_all (l : List (List UInt8)) : (setK l).all (keyB 1) = true := by
  induction l with
  | nil => rfl
  | cons x l ih => simp only [setK, List.map_cons, List.all_cons, keyB, Bool.true_and]; exact ih
abbrev cp1 : Array Edge := #[⟨0, .data⟩]
abbrev cp4 : Array Edge := #[⟨0, .data⟩, ⟨1, .data⟩]
abbrev cp5 : Array Edge := #[⟨2, .data⟩, ⟨2, .chain⟩, ⟨0, .phase⟩, ⟨1, .phase⟩, ⟨2, .phase⟩]
end Go.VM
