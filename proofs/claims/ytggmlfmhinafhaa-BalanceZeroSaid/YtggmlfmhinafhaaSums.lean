/-
  A map from accounts and currencies to sums: what its operations do.
-/
import Derived.Test.YtggmlfmhinafhaaProg
import Derived.WideKeyEntry
import Derived.DeepKeys5
import Derived.KernelRfl
import Derived.WalkKit
namespace Go.Proofs.Ytggmlfmhinafhaa
open Go.RowKit Go.ChangeMaps
open Go.WideMaps (KeyLaw)
abbrev Key := Int × ByteArray
def kvK (k : Key) : Value := .agg #[.int .i64 k.1, .string k.2]
def KeyOk (k : Key) : Prop := (Lit.int .i64 k.1).wf = true ∧ k.2.size ≤ maxLen
theorem key55 : KeyLaw Try.prog 55 := deep_law (m := 2) (by omega) (by kernel_rfl) (by kernel_rfl) (by kernel_rfl)
theorem keyOf_ok {k : Key} (h : KeyOk k) : ∃ l, keyOf Try.prog 55 (kvK k) = some l := by
  unfold keyOf
  rw [Try.underlying55]
  simp only
  have h1 : (Try.prog.keyType 55 && (kvK k).formed Try.prog 55) = true := by
    have a1 : Try.prog.keyType 55 = true := by kernel_rfl
    have a2 : Try.prog.cellsOf 55 = 2 := by kernel_rfl
    simp [a1, kvK, Value.formed, Try.underlying55, a2]
  rw [if_pos h1]
  have hz : (Try.prog.types.size == 0) = false := by kernel_rfl
  obtain ⟨n, hn⟩ : ∃ n, Try.prog.types.size + 1 = n + 2 := ⟨Try.prog.types.size - 1, by have := (beq_eq_false_iff_ne.1 hz); omega⟩
  rw [hn]
  have c55 : Try.prog.cellsOf 55 = 2 := by kernel_rfl
  have c3 : Try.prog.cellsOf 3 = 1 := by kernel_rfl
  have c9 : Try.prog.cellsOf 9 = 1 := by kernel_rfl
  have hk : Try.prog.keyLits (n + 2) 55 (kvK k).cells.toList = some [.int .i64 k.1, .string k.2.data.toList] := by
    unfold Program.keyLits
    rw [Try.underlying55]
    simp [kvK, Value.cells, c55, Program.keyLits, Try.underlying3, Try.underlying9, c3, c9, h.1, h.2]
  rw [hk]
  exact ⟨_, rfl⟩
theorem kvK_inj {a b : Key} (h : kvK a = kvK b) : a = b := by
  simp [kvK] at h
  exact Prod.ext h.1 h.2
abbrev Sums := List (Key × Int)
def kvE (x : Key × Int) : Value × Value := (kvK x.1, .int .i64 x.2)
/-- Entries of a map that hold these sums, in the order in which they were made. -/
structure Ent (es : Array MapEntry) (clock : Nat) (l : Sums) : Prop where
  eq : es.toList.map (fun e => (e.key, e.val)) = l.map kvE
  born : ∀ x ∈ es.toList, x.born < clock
  nodup : (es.toList.map (·.born)).Nodup
  ok : ∀ x ∈ l, KeyOk x.1
  keys : (l.map (·.1)).Nodup
def getS : Sums → Key → Int
  | [], _ => 0
  | (k', n) :: r, k => if k' = k then n else getS r k
def setS : Sums → Key → Int → Sums
  | [], k, n => [(k, n)]
  | (k', v) :: r, k, n => if k' = k then (k', n) :: r else (k', v) :: setS r k n
theorem getS_new {k : Key} : ∀ {l : Sums}, (∀ x ∈ l, x.1 ≠ k) → getS l k = 0
  | [], _ => rfl
  | (k', n) :: r, h => by
    rw [getS, if_neg (h _ (List.mem_cons_self ..))]
    exact getS_new fun x hx => h x (List.mem_cons_of_mem _ hx)
theorem setS_new {k : Key} {n : Int} : ∀ {l : Sums}, (∀ x ∈ l, x.1 ≠ k) → setS l k n = l ++ [(k, n)]
  | [], _ => rfl
  | (k', v) :: r, h => by
    rw [setS, if_neg (h _ (List.mem_cons_self ..)), setS_new fun x hx => h x (List.mem_cons_of_mem _ hx)]
    rfl
theorem getS_at {k : Key} {v : Int} : ∀ {l : Sums} {j : Nat}, (l.map (·.1)).Nodup → l[j]? = some (k, v) → getS l k = v
  | [], _, _, h => by simp at h
  | (k', n) :: r, 0, _, h => by
    simp only [List.getElem?_cons_zero, Option.some.injEq, Prod.mk.injEq] at h
    rw [getS, if_pos h.1]; exact h.2
  | (k', n) :: r, j + 1, hn, h => by
    simp only [List.map_cons, List.nodup_cons] at hn
    simp only [List.getElem?_cons_succ] at h
    have hne : k' ≠ k := fun e => hn.1 (List.mem_map.2 ⟨(k, v), List.mem_of_getElem? h, e.symm⟩)
    rw [getS, if_neg hne]
    exact getS_at hn.2 h
theorem setS_at {k : Key} {v n : Int} : ∀ {l : Sums} {j : Nat}, (l.map (·.1)).Nodup → l[j]? = some (k, v) → setS l k n = l.set j (k, n)
  | [], _, _, h => by simp at h
  | (k', w) :: r, 0, _, h => by
    simp only [List.getElem?_cons_zero, Option.some.injEq, Prod.mk.injEq] at h
    rw [setS, if_pos h.1, h.1]; rfl
  | (k', w) :: r, j + 1, hn, h => by
    simp only [List.map_cons, List.nodup_cons] at hn
    simp only [List.getElem?_cons_succ] at h
    have hne : k' ≠ k := fun e => hn.1 (List.mem_map.2 ⟨(k, v), List.mem_of_getElem? h, e.symm⟩)
    rw [setS, if_neg hne, setS_at hn.2 h]
    rfl
theorem set_map_fst {k : Key} {v n : Int} : ∀ {l : Sums} {j : Nat}, l[j]? = some (k, v) → (l.set j (k, n)).map (·.1) = l.map (·.1)
  | [], _, h => by simp at h
  | (k', w) :: r, 0, h => by
    simp only [List.getElem?_cons_zero, Option.some.injEq, Prod.mk.injEq] at h
    simp [h.1]
  | (k', w) :: r, j + 1, h => by
    simp only [List.getElem?_cons_succ] at h
    simp [set_map_fst h]
theorem Ent.nil : Ent #[] 0 [] := ⟨rfl, by simp, by simp, by simp, by simp⟩
theorem Ent.good {es : Array MapEntry} {clock : Nat} {l : Sums} (h : Ent es clock l) : ∀ e ∈ es.toList, ∃ l, keyOf Try.prog 55 e.key = some l := fun e he => by
  obtain ⟨j, hj⟩ := List.getElem?_of_mem he
  have := congrArg (fun l => l[j]?) h.eq
  simp only [List.getElem?_map, hj, Option.map_some] at this
  cases hl : l[j]? with
  | none => rw [hl] at this; cases this
  | some x =>
    rw [hl] at this
    simp only [Option.map_some, Option.some.injEq, kvE, Prod.mk.injEq] at this
    rw [this.1]
    exact keyOf_ok (h.ok x (List.mem_of_getElem? hl))
theorem Ent.at {es : Array MapEntry} {clock : Nat} {l : Sums} (h : Ent es clock l) {j : Nat} {e0 : MapEntry} {k : Key} (hj : es.toList[j]? = some e0) (hk : e0.key = kvK k) : ∃ v, l[j]? = some (k, v) ∧ e0.val = .int .i64 v := by
  have := congrArg (fun l => l[j]?) h.eq
  simp only [List.getElem?_map, hj, Option.map_some] at this
  cases hl : l[j]? with
  | none => rw [hl] at this; cases this
  | some x =>
    rw [hl] at this
    simp only [Option.map_some, Option.some.injEq, kvE, Prod.mk.injEq] at this
    have hx : x.1 = k := kvK_inj (this.1.symm.trans hk)
    exact ⟨x.2, by rw [← hx], this.2⟩
theorem Ent.no {es : Array MapEntry} {clock : Nat} {l : Sums} (h : Ent es clock l) {k : Key} (hn : ∀ e ∈ es.toList, e.key ≠ kvK k) : ∀ x ∈ l, x.1 ≠ k := fun x hx e => by
  obtain ⟨j, hj⟩ := List.getElem?_of_mem hx
  have := congrArg (fun l => l[j]?) h.eq
  simp only [List.getElem?_map, hj, Option.map_some] at this
  cases he : es.toList[j]? with
  | none => rw [he] at this; cases this
  | some e0 =>
    rw [he] at this
    simp only [Option.map_some, Option.some.injEq, kvE, Prod.mk.injEq] at this
    exact hn e0 (List.mem_of_getElem? he) (this.1.trans (by rw [e]))
theorem zero3 (w : World) : (zeroValue 3).run Try.prog w = .ok (.int .i64 0) w := by
  have h : (Try.prog.info? 3).map (·.zero) = some (some (.int .i64 0)) := by kernel_rfl
  cases hi : Try.prog.info? 3 with
  | none => rw [hi] at h; cases h
  | some i =>
    rw [hi] at h
    simp only [Option.map_some, Option.some.injEq] at h
    simp [zeroValue, typeInfo, hi, h]
theorem Ent.one {es : Array MapEntry} {clock : Nat} {l : Sums} (h : Ent es clock l) {k : Key} {i j : Nat} {e e' : MapEntry} (hi : es.toList[i]? = some e) (hj : es.toList[j]? = some e') (he : e.key = kvK k) (he' : e'.key = kvK k) : i = j := by
  obtain ⟨v, h1, _⟩ := h.at hi he
  obtain ⟨v', h2, _⟩ := h.at hj he'
  have a1 : (l.map (·.1))[i]? = some k := by simp [h1]
  have a2 : (l.map (·.1))[j]? = some k := by simp [h2]
  have hlt : i < (l.map (·.1)).length := (List.getElem?_eq_some_iff.1 a1).1
  exact (List.getElem?_inj hlt h.keys).1 (a1.trans a2.symm)
theorem Ent.push {es : Array MapEntry} {clock : Nat} {l : Sums} (h : Ent es clock l) {k : Key} (hk : KeyOk k) (hn : ∀ x ∈ l, x.1 ≠ k) (n : Int) : Ent (es.push ⟨kvK k, .int .i64 n, clock⟩) (clock + 1) (l ++ [(k, n)]) := by
  refine ⟨by simp [h.eq, kvE], fun x hx => ?_, ?_, fun x hx => ?_, ?_⟩
  · simp only [Array.toList_push, List.mem_append, List.mem_singleton] at hx
    rcases hx with hx | rfl
    · have := h.born x hx; omega
    · show clock < clock + 1; omega
  · simp only [Array.toList_push, List.map_append, List.map_cons, List.map_nil]
    refine List.nodup_append.2 ⟨h.nodup, by simp, fun a ha c hc e1 => ?_⟩
    simp only [List.mem_singleton] at hc
    obtain ⟨x, hx, rfl⟩ := List.mem_map.1 ha
    have := h.born x hx
    omega
  · rcases List.mem_append.1 hx with hx | hx
    · exact h.ok x hx
    · simp only [List.mem_singleton] at hx; subst hx; exact hk
  · rw [List.map_append]
    refine List.nodup_append.2 ⟨h.keys, by simp, fun a ha c hc e1 => ?_⟩
    simp only [List.map_cons, List.map_nil, List.mem_singleton] at hc
    obtain ⟨x, hx, rfl⟩ := List.mem_map.1 ha
    exact hn x hx (e1.trans hc)
theorem Ent.set {es : Array MapEntry} {clock : Nat} {l : Sums} (h : Ent es clock l) {k : Key} {j : Nat} {e0 : MapEntry} (hj : es.toList[j]? = some e0) (he : e0.key = kvK k) (n : Int) : Ent (es.modify j fun e => { e with val := .int .i64 n }) clock (l.set j (k, n)) := by
  obtain ⟨v, h1, _⟩ := h.at hj he
  have hm : (es.modify j fun e => { e with val := .int .i64 n }).toList = es.toList.set j { e0 with val := .int .i64 n } := by
    rw [Array.toList_modify, modify_eq_set _ _ _ _ hj]
  have hb : (es.toList.set j { e0 with val := .int .i64 n }).map (·.born) = es.toList.map (·.born) := by
    rw [List.map_set]
    exact WideElems.set_self _ _ _ (by simp [hj])
  refine ⟨?_, fun x hx => ?_, ?_, fun x hx => ?_, ?_⟩
  · rw [hm, List.map_set, List.map_set, h.eq]
    simp [kvE, he]
  · rw [hm] at hx
    rcases List.mem_or_eq_of_mem_set hx with hx | rfl
    · exact h.born x hx
    · exact h.born e0 (List.mem_of_getElem? hj)
  · rw [hm, hb]; exact h.nodup
  · rcases List.mem_or_eq_of_mem_set hx with hx | rfl
    · exact h.ok x hx
    · exact h.ok (k, v) (List.mem_of_getElem? h1)
  · rw [set_map_fst h1]; exact h.keys
/-- 'm[k] += n' at the three operations that it comes to. -/
theorem sums_ops {es : Array MapEntry} {clock : Nat} {l : Sums} (h : Ent es clock l) {k : Key} (hk : KeyOk k) (b : Nat) :
    ∃ (st : Nat) (es1 : Array MapEntry) (clock1 : Nat),
      (∀ w : World, w.heap[b]? = some (.map es clock) → (Instr.lookup 53 (.map (some b)) (kvK k) false).run Try.prog w = .ok (.int .i64 (getS l k)) w ∧
        (Instr.mapEntry 53 (.map (some b)) (kvK k)).run Try.prog w = .ok (.tuple #[.int .i64 (getS l k), goInt st]) (setBlock w b (.map es1 clock1))) ∧
      (∀ w : World, w.heap[b]? = some (.map es1 clock1) → (Instr.lookup 53 (.map (some b)) (kvK k) false).run Try.prog w = .ok (.int .i64 (getS l k)) w ∧
        ∀ n : Int, ∃ es2 clock2, (Instr.entryStore 53 (.map (some b)) (goInt st) (.int .i64 n)).run Try.prog w = .ok () (setBlock w b (.map es2 clock2)) ∧ Ent es2 clock2 (setS l k n)) := by
  obtain ⟨kl, hkey⟩ := keyOf_ok hk
  have ht := Try.underlying53
  by_cases hex : ∃ e ∈ es.toList, e.key = kvK k
  · obtain ⟨e0, he0, hek⟩ := hex
    obtain ⟨j, hj⟩ := List.getElem?_of_mem he0
    obtain ⟨v, hlj, hval⟩ := h.at hj hek
    have hgv : getS l k = v := getS_at h.keys hlj
    have hf : ∀ w : World, (Instr.findKey 55 (kvK k) es.toList).run Try.prog w = .ok (some (j, e0.val)) w := fun w => by
      rcases key55.find w hkey es.toList h.good with ⟨_, h2⟩ | ⟨j', e1, h1, h2, h3⟩
      · exact absurd hek (h2 e0 he0)
      · obtain rfl := h.one h2 hj h3 hek
        rw [hj] at h2
        obtain rfl := Option.some.inj h2
        exact h1
    have hj' : es[j]? = some e0 := by simpa using hj
    have hsame : es.modify j (fun e => { e with key := kvK k }) = es := by
      apply Array.ext'
      rw [Array.toList_modify, modify_eq_set _ _ _ _ hj]
      have : ({ e0 with key := kvK k } : MapEntry) = e0 := by rw [← hek]
      rw [this]
      exact WideElems.set_self _ _ _ hj
    have hlook : ∀ w : World, w.heap[b]? = some (.map es clock) → (Instr.lookup 53 (.map (some b)) (kvK k) false).run Try.prog w = .ok (.int .i64 (getS l k)) w := fun w hb => by
      simp [Instr.lookup, run_underlying ht, MapKept.run_getObj_map hb, key55.check w _ hkey, hf w, Result.andThen, hval, hgv]
    refine ⟨e0.born, es, clock, fun w hb => ⟨hlook w hb, ?_⟩, fun w hb => ⟨hlook w hb, fun n => ⟨es.modify j (fun e => { e with val := .int .i64 n }), clock, ?_, ?_⟩⟩⟩
    · simp [Instr.mapEntry, run_underlying ht, MapKept.run_getObj_map hb, key55.check w false hkey, hf w, hj', hek, key55.stays w hkey, hsame, MapKept.run_setObj_map _ hb, Result.andThen, setBlock, hval, hgv]
    · have hidx : es.findIdx? (fun e => ((e.born : Nat) : Int) == ((e0.born : Nat) : Int)) = some j := by
        rw [WideElems.findIdx_arr]
        exact WideElems.findIdx_born h.nodup hj
      simp [Instr.entryStore, MapKept.run_getObj_map hb, asInt, asIntOf, goInt, hidx, MapKept.run_setObj_map _ hb, Result.andThen, setBlock]
    · rw [setS_at h.keys hlj]
      exact h.set hj hek n
  · have hno : ∀ e ∈ es.toList, e.key ≠ kvK k := fun e he hk => hex ⟨e, he, hk⟩
    have hno' := h.no hno
    have h1e := h.push hk hno' 0
    have hf : ∀ w : World, (Instr.findKey 55 (kvK k) es.toList).run Try.prog w = .ok none w := fun w => by
      rcases key55.find w hkey es.toList h.good with ⟨h1, _⟩ | ⟨j', e1, _, h2, h3⟩
      · exact h1
      · exact absurd h3 (hno e1 (List.mem_of_getElem? h2))
    have hf1 : ∀ w : World, ∃ j, (Instr.findKey 55 (kvK k) (es.toList ++ [⟨kvK k, .int .i64 0, clock⟩])).run Try.prog w = .ok (some (j, .int .i64 0)) w := fun w => by
      have hg := h1e.good
      rw [Array.toList_push] at hg
      rcases key55.find w hkey _ hg with ⟨_, h2⟩ | ⟨j', e1, h1, h2, h3⟩
      · exact absurd rfl (h2 ⟨kvK k, .int .i64 0, clock⟩ (by simp))
      · refine ⟨j', ?_⟩
        have hm := List.mem_of_getElem? h2
        rcases List.mem_append.1 hm with hm | hm
        · exact absurd h3 (hno e1 hm)
        · simp only [List.mem_singleton] at hm
          subst hm
          exact h1
    have hg0 : getS l k = 0 := getS_new hno'
    refine ⟨clock, es.push ⟨kvK k, .int .i64 0, clock⟩, clock + 1, fun w hb => ⟨?_, ?_⟩, fun w hb => ⟨?_, fun n => ⟨es.push ⟨kvK k, .int .i64 n, clock⟩, clock + 1, ?_, ?_⟩⟩⟩
    · simp [Instr.lookup, run_underlying ht, MapKept.run_getObj_map hb, key55.check w _ hkey, hf w, Result.andThen, hg0]
    · simp [Instr.mapEntry, run_underlying ht, MapKept.run_getObj_map hb, key55.check w false hkey, hf w, MapKept.run_setObj_map _ hb, Result.andThen, setBlock, hg0]
    · obtain ⟨j, hf1⟩ := hf1 w
      simp [Instr.lookup, run_underlying ht, MapKept.run_getObj_map hb, key55.check w _ hkey, hf1, Result.andThen, hg0]
    · have hidx : (es.push ⟨kvK k, .int .i64 0, clock⟩).findIdx? (fun e => ((e.born : Nat) : Int) == ((clock : Nat) : Int)) = some es.size := by
        rw [WideElems.findIdx_arr]
        exact WideElems.findIdx_born (l := (es.push ⟨kvK k, .int .i64 0, clock⟩).toList) (j := es.size) (e0 := ⟨kvK k, .int .i64 0, clock⟩) h1e.nodup (by simp)
      have hmod : (es.push ⟨kvK k, .int .i64 0, clock⟩).modify es.size (fun e => { e with val := .int .i64 n }) = es.push ⟨kvK k, .int .i64 n, clock⟩ := by
        apply Array.ext'
        rw [Array.toList_modify, Array.toList_push, Array.toList_push, ← Array.length_toList, WideElems.modify_last]
      simp [Instr.entryStore, MapKept.run_getObj_map hb, asInt, asIntOf, goInt, hidx, hmod, MapKept.run_setObj_map _ hb, Result.andThen, setBlock]
    · rw [setS_new hno']
      exact h.push hk hno' n
end Go.Proofs.Ytggmlfmhinafhaa
