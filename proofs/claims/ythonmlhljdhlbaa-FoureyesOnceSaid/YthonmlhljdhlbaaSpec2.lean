/-
  What the functions that the laws reach compute: requests, one by one and in lists.
-/
import Derived.Test.YthonmlhljdhlbaaSpec
namespace Go.Proofs.Ythonmlhljdhlbaa
open Go.VM
/-- Texts and lists of a command are short. -/
def few (c : Command) : Prop := c.crashes.length ≤ 100
theorem e34 (c : Command) (h : few c) : O 34 [.a c.cells] = some (.a c.cells) := by
  refine orun (fc := code34) rfl rfl rfl ?_
  have h49 := e49 c.crashes h
  simp [code34, Command.cells, h49]
def amount (c : Command) : Int := if c.kind = 13 ∨ c.kind = 16 then c.terms.principal else if c.kind = 26 then 1000000000000 else c.amount
@[simp] theorem e24 (c : Command) : O 24 [.a c.cells] = some (.i .i64 (amount c)) := by
  refine orun (fc := code24) rfl rfl rfl ?_
  by_cases h1 : c.kind = 13
  · simp [code24, Command.cells, amount, h1]
  · by_cases h2 : c.kind = 16
    · simp [code24, Command.cells, amount, h2]
    · by_cases h3 : c.kind = 26
      · simp [code24, Command.cells, amount, h3]
      · simp [code24, Command.cells, amount, h1, h2, h3]
@[simp] theorem e40 (c : Command) : O 40 [.a c.cells] = some (.i .i64 (amount c)) := by
  refine orun (fc := code40) rfl rfl rfl ?_
  by_cases h1 : c.kind = 13
  · simp [code40, Command.cells, amount, h1]
  · by_cases h2 : c.kind = 16
    · simp [code40, Command.cells, amount, h2]
    · by_cases h3 : c.kind = 26
      · simp [code40, Command.cells, amount, h3]
      · simp [code40, Command.cells, amount, h1, h2, h3]

/-! ### Equal commands, equal lists -/
def neI (a b : List Int) (i : Nat) : Option Unit := match a[i]?, b[i]? with
  | some x, some y => if x = y then none else some ()
  | _, _ => none
theorem l28 (a b : List Int) (h : a.length ≤ 1000) (he : a.length = b.length) : loopK O [0, 1, 5] body28_1 [(0, .l (encI a)), (1, .l (encI b)), (5, .i .i64 0)] = some (optE (fun _ => (.r, [(4, .b false)])) (.e 0, []) ((List.range a.length).findSome? (neI a b))) := by
  have := loopK_code (o := O) (kin := [0, 1, 5]) (c := body28_1) (fun i => [(0, .l (encI a)), (1, .l (encI b)), (5, .i .i64 i)]) a.length (neI a b) (fun _ => (.r, [(4, .b false)])) (.e 0, []) (by simp) (by simp) (fun i hi => by
    have hw := wrap_i64 (i + 1) (by omega)
    have hj : i < b.length := by omega
    by_cases hx : a[i] = b[i] <;> simp [body28_1, hi, hj, hw, neI, hx]) (by simp [body28_1]) (by simp)
  exact this
theorem ne_none {a b : List Int} (he : a.length = b.length) : (List.range a.length).findSome? (neI a b) = none ↔ a = b := by
  rw [range_find_none]
  constructor
  · intro h
    refine List.ext_getElem he fun i h1 h2 => ?_
    have := h i h1
    simp only [neI, List.getElem?_eq_getElem h1, List.getElem?_eq_getElem h2] at this
    split at this
    · assumption
    · cases this
  · rintro rfl i hi
    simp [neI, hi]
theorem e28 (a b : List Int) (h : a.length ≤ 1000) : O 28 [.l (encI a), .l (encI b)] = some (.b (decide (a = b))) := by
  refine orun (fc := code28) rfl rfl rfl ?_
  by_cases he : a.length = b.length
  · have hl := l28 a b h he
    have he' : (a.length : Int) = (b.length : Int) := by omega
    by_cases hab : a = b
    · subst hab
      rw [(ne_none rfl).2 rfl] at hl
      simp [code28, exec_loopK, hl]
    · cases hq : (List.range a.length).findSome? (neI a b) with
      | none => exact absurd ((ne_none he).1 hq) hab
      | some u => rw [hq] at hl; simp [code28, exec_loopK, he', hl, hab]
  · have he' : ¬ (a.length : Int) = (b.length : Int) := by omega
    have hab : a ≠ b := fun e => he (by rw [e])
    simp [code28, he', hab]
theorem terms_eq (a b : Terms) : a = b ↔ (a.method = b.method ∧ a.principal = b.principal ∧ a.ppm = b.ppm ∧ a.start = b.start ∧ a.every = b.every ∧ a.count = b.count ∧ a.balloon = b.balloon ∧ a.mode' = b.mode' ∧ a.penaltyPpm = b.penaltyPpm ∧ a.feePpm = b.feePpm ∧ a.calendar = b.calendar ∧ a.currency = b.currency) := by
  cases a; cases b; simp
theorem message_eq (a b : Message) : a = b ↔ (a.sender = b.sender ∧ a.seq = b.seq ∧ a.kind = b.kind ∧ a.account = b.account ∧ a.amount = b.amount ∧ a.day = b.day ∧ a.text = b.text) := by
  cases a; cases b; simp
theorem command_eq (a b : Command) : a = b ↔ (a.kind = b.kind ∧ a.account = b.account ∧ a.other = b.other ∧ a.amount = b.amount ∧ a.value = b.value ∧ a.number = b.number ∧ a.user = b.user ∧ a.key = b.key ∧ a.text = b.text ∧ a.terms = b.terms ∧ a.message = b.message ∧ a.crashes = b.crashes) := by
  cases a; cases b; simp
set_option maxHeartbeats 4000000 in
theorem e21 (a b : Command) (h : few a) : O 21 [.a a.cells, .a b.cells] = some (.b (decide (a = b))) := by
  refine orun (fc := code21) rfl rfl rfl ?_
  have h28 := e28 a.crashes b.crashes (by unfold few at h; omega)
  simp [code21, Command.cells, h28, command_eq, terms_eq, message_eq]
  simp only [Bool.and_assoc]

/-! ### Lists that are equal -/
theorem request_eq (a b : Request) : a = b ↔ (a.id = b.id ∧ a.day = b.day ∧ a.until' = b.until' ∧ a.state = b.state ∧ a.maker = b.maker ∧ a.checker = b.checker ∧ a.command = b.command) := by
  cases a; cases b; simp
def neR (a b : List Request) (i : Nat) : Option Unit := match a[i]?, b[i]? with
  | some x, some y => if x = y then none else some ()
  | _, _ => none
def Few (l : List Request) : Prop := ∀ r ∈ l, few r.command
theorem l15 (a b : List Request) (h : a.length ≤ 1000) (he : a.length = b.length) (hf : Few a) : loopK O [0, 1, 5] body15_1 [(0, .l (enc a)), (1, .l (enc b)), (5, .i .i64 0)] = some (optE (fun _ => (.r, [(4, .b false)])) (.e 0, []) ((List.range a.length).findSome? (neR a b))) := by
  have := loopK_code (o := O) (kin := [0, 1, 5]) (c := body15_1) (fun i => [(0, .l (enc a)), (1, .l (enc b)), (5, .i .i64 i)]) a.length (neR a b) (fun _ => (.r, [(4, .b false)])) (.e 0, []) (by simp) (by simp) (fun i hi => by
    have hw := wrap_i64 (i + 1) (by omega)
    have hj : i < b.length := by omega
    have h21 := e21 a[i].command b[i].command (hf _ (List.getElem_mem hi))
    by_cases c1 : a[i].id = b[i].id
    · by_cases c2 : a[i].day = b[i].day
      · by_cases c3 : a[i].until' = b[i].until'
        · by_cases c4 : a[i].state = b[i].state
          · by_cases c5 : a[i].maker = b[i].maker
            · by_cases c6 : a[i].checker = b[i].checker
              · by_cases c7 : a[i].command = b[i].command
                · rw [c7] at h21
                  simp [body15_1, hi, hj, hw, neR, request_eq, h21, c1, c2, c3, c4, c5, c6, c7]
                · simp [body15_1, hi, hj, neR, request_eq, h21, c1, c2, c3, c4, c5, c6, c7]
              · simp [body15_1, hi, hj, neR, request_eq, c1, c2, c3, c4, c5, c6]
            · simp [body15_1, hi, hj, neR, request_eq, c1, c2, c3, c4, c5]
          · simp [body15_1, hi, hj, neR, request_eq, c1, c2, c3, c4]
        · simp [body15_1, hi, hj, neR, request_eq, c1, c2, c3]
      · simp [body15_1, hi, hj, neR, request_eq, c1, c2]
    · simp [body15_1, hi, hj, neR, request_eq, c1]) (by simp [body15_1]) (by simp)
  exact this
theorem neR_none {a b : List Request} (he : a.length = b.length) : (List.range a.length).findSome? (neR a b) = none ↔ a = b := by
  rw [range_find_none]
  constructor
  · intro h
    refine List.ext_getElem he fun i h1 h2 => ?_
    have := h i h1
    simp only [neR, List.getElem?_eq_getElem h1, List.getElem?_eq_getElem h2] at this
    split at this
    · assumption
    · cases this
  · rintro rfl i hi
    simp [neR, hi]
theorem e15 (a b : List Request) (h : a.length ≤ 1000) (hf : Few a) : O 15 [.l (enc a), .l (enc b)] = some (.b (decide (a = b))) := by
  refine orun (fc := code15) rfl rfl rfl ?_
  by_cases he : a.length = b.length
  · have hl := l15 a b h he hf
    have he' : (a.length : Int) = (b.length : Int) := by omega
    by_cases hab : a = b
    · subst hab
      rw [(neR_none rfl).2 rfl] at hl
      simp [code15, exec_loopK, hl]
    · cases hq : (List.range a.length).findSome? (neR a b) with
      | none => exact absurd ((neR_none he).1 hq) hab
      | some u => rw [hq] at hl; simp [code15, exec_loopK, he', hl, hab]
  · have he' : ¬ (a.length : Int) = (b.length : Int) := by omega
    have hab : a ≠ b := fun e => he (by rw [e])
    simp [code15, he', hab]

/-! ### Check -/
def bad1 (r : Request) : Bool := ((((decide (r.id < 1) || !validD r.day) || !validD r.until') || decide (r.until' < r.day)) || decide (r.state < 1)) || decide (4 < r.state)
def bad2 (r : Request) : Bool := (!nameB r.maker || (decided r.state && !nameB r.checker)) || (!decided r.state && !decide (r.checker = []))
def one (r : Request) : Int := if bad1 r = true then 1 else if bad2 r = true then 4 else 0
@[simp] theorem e31 (r : Request) : O 31 [r.v] = some (.i .i64 (one r)) := by
  refine orun (fc := code31) rfl rfl rfl ?_
  have h1 : bad1 r = (((((decide (r.id < 1) || !validD r.day) || !validD r.until') || decide (r.until' < r.day)) || decide (r.state < 1)) || decide (4 < r.state)) := rfl
  have h2 : bad2 r = ((!nameB r.maker || (decided r.state && !nameB r.checker)) || (!decided r.state && !decide (r.checker = []))) := rfl
  cases c1 : bad1 r <;> cases c2 : bad2 r <;> rw [c1] at h1 <;> rw [c2] at h2 <;> simp [code31, one, c1, c2, ← h1, ← h2]
end Go.Proofs.Ythonmlhljdhlbaa
