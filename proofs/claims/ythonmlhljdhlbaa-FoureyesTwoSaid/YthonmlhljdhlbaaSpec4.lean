/-
  What the functions that the laws reach compute: decisions.
-/
import Derived.Test.YthonmlhljdhlbaaSpec3
namespace Go.Proofs.Ythonmlhljdhlbaa
open Go.VM
def rAt (l : List Request) (id : Int) (i : Nat) : Option Nat := match l[i]? with
  | some r => if r.id = id then some i else none
  | none => none
def rpos (l : List Request) (id : Int) : Option Nat := (List.range l.length).findSome? (rAt l id)
theorem rpos_some {l : List Request} {id : Int} {i : Nat} (h : rpos l id = some i) : ∃ hi : i < l.length, l[i].id = id := by
  unfold rpos at h
  obtain ⟨k, hk, hp⟩ := List.exists_of_findSome?_eq_some h
  have hk' : k < l.length := List.mem_range.1 hk
  simp [rAt, hk'] at hp
  obtain ⟨h1, rfl⟩ := hp
  exact ⟨hk', h1⟩
@[simp] theorem e52 (r : Request) (id : Int) : O 52 [r.v, .r [.i .i64 id]] = some (.b (decide (r.id = id))) := by
  refine orun (fc := code52) rfl rfl rfl ?_; simp [code52]
theorem l51 (l : List Request) (id : Int) (h : l.length ≤ 1000) : loopK O [0, 1, 7, 8] body51_1 [(0, .l (enc l)), (1, .f (.func 52) [] [.r [.i .i64 id]]), (7, .i .i64 l.length), (8, .i .i64 0)] = some (optE (fun (i : Nat) => (.r, [(4, .i .i64 i)])) (.e 0, []) (rpos l id)) := by
  have := loopK_code (o := O) (kin := [0, 1, 7, 8]) (c := body51_1) (fun i => [(0, .l (enc l)), (1, .f (.func 52) [] [.r [.i .i64 id]]), (7, .i .i64 l.length), (8, .i .i64 i)]) l.length (rAt l id) (fun (i : Nat) => (.r, [(4, .i .i64 i)])) (.e 0, []) (by simp) (by simp) (fun i hi => by
    have hw := wrap_i64 (i + 1) (by omega)
    simp [body51_1, hi, hw, rAt]) (by simp [body51_1]) (by simp)
  exact this
theorem e51 (l : List Request) (id : Int) (h : l.length ≤ 1000) : O 51 [.l (enc l), .f (.func 52) [] [.r [.i .i64 id]]] = some (posV (rpos l id)) := by
  refine orun (fc := code51) rfl rfl rfl ?_
  have hl := l51 l id h
  cases hp : rpos l id <;> rw [hp] at hl <;> simp [code51, exec_loopK, hl, posV]
/-- Can it be decided on? -/
def st (r : Request) (d : Int) : Int := if r.state ≠ 1 then 17 else if r.until' < d then 23 else 0
def stAt (l : List Request) (d : Int) (i : Nat) : Nat × Int := (i, (l[i]?.map fun r => st r d).getD 0)
theorem l41 (l : List Request) (id d : Int) (h : l.length ≤ 1000) : loopK O [0, 1, 2, 8] body41_1 [(0, .l (enc l)), (1, .i .i64 id), (2, .i .i64 d), (8, .i .i64 0)] = some (optE (fun (p : Nat × Int) => (.r, [(6, .i .i64 p.1), (7, .i .i64 p.2)])) (.e 0, []) ((rpos l id).map (stAt l d))) := by
  have := loopK_code (o := O) (kin := [0, 1, 2, 8]) (c := body41_1) (fun i => [(0, .l (enc l)), (1, .i .i64 id), (2, .i .i64 d), (8, .i .i64 i)]) l.length (fun i => (rAt l id i).map (stAt l d)) (fun (p : Nat × Int) => (.r, [(6, .i .i64 p.1), (7, .i .i64 p.2)])) (.e 0, []) (by simp) (by simp) (fun i hi => by
    have hw := wrap_i64 (i + 1) (by omega)
    by_cases c1 : l[i].id = id
    · by_cases c2 : l[i].state = 1
      · by_cases c3 : l[i].until' < d <;> simp [body41_1, hi, rAt, stAt, st, c1, c2, c3]
      · simp [body41_1, hi, rAt, stAt, st, c1, c2]
    · simp [body41_1, hi, hw, rAt, c1]) (by simp [body41_1]) (by simp)
  rw [rpos, List.map_findSome?]
  exact this
def placeV (l : List Request) (d : Int) : Option Nat → V
  | some i => .t [.i .i64 i, .i .i64 (stAt l d i).2]
  | none => .t [.i .i64 0, .i .i64 11]
theorem e41 (l : List Request) (id d : Int) (h : l.length ≤ 1000) : O 41 [.l (enc l), .i .i64 id, .i .i64 d] = some (placeV l d (rpos l id)) := by
  refine orun (fc := code41) rfl rfl rfl ?_
  have hl := l41 l id d h
  cases hp : rpos l id <;> rw [hp] at hl <;> simp [code41, exec_loopK, hl, placeV, stAt]
theorem set_self (l : List Request) (i : Nat) (hi : i < l.length) : (enc l).set i (Request.v l[i]) = enc l := by
  rw [← encL_set, List.set_getElem_self]
theorem l35 (l : List Request) (h : l.length ≤ 1000) (hf : Few l) : loopK O [3, 8, 9] body35_1 [(3, .ow 35 (enc l)), (8, .i .i64 l.length), (9, .i .i64 0)] = some (.e 0, [(3, .ow 35 (enc l))]) :=
  loopK_run (o := O) (kin := [3, 8, 9]) (c := body35_1) (fun i => [(3, .ow 35 (enc l)), (8, .i .i64 l.length), (9, .i .i64 i)]) l.length _ (by simp) (fun i hi => by
    have hw := wrap_i64 (i + 1) (by omega)
    have h34 := e34 l[i].command (hf _ (List.getElem_mem hi))
    have hs := set_self l i hi
    simp [body35_1, hi, hw, h34, hs]) (by simp [body35_1]) (by simp)
theorem e35 (l : List Request) (h : l.length ≤ 100) (hf : Few l) : O 35 [.l (enc l)] = some (.ow 35 (enc l)) := by
  refine orun (fc := code35) rfl rfl rfl ?_
  simp [code35, e50 l h, exec_loopK, l35 l (by omega) hf]
/-- The list in which request i has this state and checker. -/
def setAt (l : List Request) (i : Nat) (s : Int) (name : List UInt8) : List Request := match l[i]? with
  | some r => l.set i { r with state := s, checker := name }
  | none => l
theorem e42 (l : List Request) (i : Nat) (s : Int) (name : List UInt8) (h : l.length ≤ 100) (hi : i < l.length) : O 42 [.l (enc l), .i .i64 i, .i .i64 s, .s name] = some (.ow 35 (enc (setAt l i s name))) := by
  refine orun (fc := code42) rfl rfl rfl ?_
  have hb : l.length * 368 ≤ 140737488355328 := by omega
  simp [code42, hi, hb, setAt, encL_set]
def cz : Command := ⟨0, 0, 0, 0, 0, 0, [], [], [], ⟨0, 0, 0, 0, 0, 0, 0, 0, 0, 0, [], []⟩, ⟨[], 0, 0, 0, 0, 0, []⟩, []⟩
theorem cz_cells : cz.cells = [.i .i64 0, .i .i64 0, .i .i64 0, .i .i64 0, .i .i64 0, .i .i64 0, .s [], .s [], .s [], .i .i64 0, .i .i64 0, .i .i64 0, .i .i64 0, .i .i64 0, .i .i64 0, .i .i64 0, .i .i64 0, .i .i64 0, .i .i64 0, .s [], .s [], .s [], .i .i64 0, .i .i64 0, .i .i64 0, .i .i64 0, .i .i64 0, .s [], .l []] := rfl
def decV (p : List Request × Command × Int) : V := .t [.ow 35 (enc p.1), .a p.2.1.cells, .i .i64 p.2.2]
def dec (l : List Request) (id : Int) (name : List UInt8) (d s : Int) (may : Request → Int) : List Request × Command × Int := match rpos l id with
  | none => ([], cz, 11)
  | some i => match l[i]? with
    | none => ([], cz, 11)
    | some r => if st r d ≠ 0 then ([], cz, st r d) else if may r ≠ 0 then ([], cz, may r) else (setAt l i s name, r.command, 0)
set_option maxHeartbeats 4000000 in
theorem e36 (l : List Request) (id : Int) (name : List UInt8) (d s : Int) (f : Nat) (cs : List V) (may : Request → Int) (h : l.length ≤ 100) (hf : Few l) (hm : ∀ r, O f (r.v :: cs) = some (.i .i64 (may r))) :
    O 36 [.l (enc l), .i .i64 id, .s name, .i .i64 d, .i .i64 s, .f (.func f) [] cs] = some (decV (dec l id name d s may)) := by
  refine orun (fc := code36) rfl rfl rfl ?_
  have h51 := e51 l id (by omega)
  have h35 := e35 l h hf
  cases hp : rpos l id with
  | none => rw [hp] at h51; simp [posV] at h51; simp [code36, h51, dec, hp, decV, cz_cells]
  | some i =>
    obtain ⟨hi, _⟩ := rpos_some hp
    rw [hp] at h51; simp [posV] at h51
    have hmi := hm l[i]
    have h34 := e34 l[i].command (hf _ (List.getElem_mem hi))
    by_cases c1 : l[i].state = 1
    · by_cases c2 : l[i].until' < d
      · simp [code36, h51, dec, hp, hi, st, c1, c2, decV, cz_cells]
      · by_cases c3 : may l[i] = 0
        · rw [c3] at hmi
          unfold Request.v at hmi
          rw [c1] at hmi
          simp [code36, h51, h35, h34, dec, hp, hi, st, c1, c2, c3, hmi, decV, setAt, encL_set]
        · unfold Request.v at hmi
          rw [c1] at hmi
          simp [code36, h51, dec, hp, hi, st, c1, c2, c3, hmi, decV, cz_cells]
    · simp [code36, h51, dec, hp, hi, st, c1, decV, cz_cells]

/-! ### Approve and Reject -/
def mayA (us : List User) (name : List UInt8) (r : Request) : Int := if has us name 32 = false then 21 else if name = r.maker then 22 else if (got us name).1.limit < amount r.command then 21 else 0
theorem e37 (us : List User) (name : List UInt8) (h : us.length ≤ 40) (r : Request) : O 37 [r.v, .r [.l (encU us)], .r [.s name]] = some (.i .i64 (mayA us name r)) := by
  refine orun (fc := code37) rfl rfl rfl ?_
  have h38 := e38 us name h
  unfold gotV at h38
  have h39 := e39 us name 32 h
  cases c1 : has us name 32 with
  | false => rw [c1] at h39; simp [code37, h38, h39, mayA, c1]
  | true =>
    rw [c1] at h39
    by_cases c2 : name = r.maker
    · subst c2
      simp [code37, h38, h39, mayA, c1]
    · by_cases c3 : (got us name).1.limit < amount r.command <;> simp [code37, h38, h39, mayA, c1, c2, c3]
def mayR (us : List User) (name : List UInt8) (r : Request) : Int := if name ≠ r.maker ∧ has us name 32 = false then 21 else 0
theorem e43 (us : List User) (name : List UInt8) (h : us.length ≤ 40) (r : Request) : O 43 [r.v, .r [.s name], .r [.l (encU us)]] = some (.i .i64 (mayR us name r)) := by
  refine orun (fc := code43) rfl rfl rfl ?_
  have h39 := e39 us name 32 h
  by_cases c2 : name = r.maker
  · subst c2
    simp [code43, mayR]
  · cases c1 : has us name 32 <;> rw [c1] at h39 <;> simp [code43, h39, mayR, c1, c2]
def approve (l : List Request) (us : List User) (id : Int) (name : List UInt8) (d : Int) : List Request × Command × Int := dec l id name d 2 (mayA us name)
def reject (l : List Request) (us : List User) (id : Int) (name : List UInt8) (d : Int) : List Request × Command × Int := dec l id name d 3 (mayR us name)
theorem dec_cases (l : List Request) (id : Int) (name : List UInt8) (d s : Int) (may : Request → Int) : (∃ e, e ≠ 0 ∧ dec l id name d s may = ([], cz, e)) ∨ ∃ i, ∃ hi : i < l.length, rpos l id = some i ∧ l[i].id = id ∧ l[i].state = 1 ∧ ¬ l[i].until' < d ∧ may l[i] = 0 ∧ dec l id name d s may = (l.set i { l[i] with state := s, checker := name }, l[i].command, 0) := by
  unfold dec
  cases hp : rpos l id with
  | none => exact .inl ⟨11, by decide, rfl⟩
  | some i =>
    obtain ⟨hi, hid⟩ := rpos_some hp
    simp only [List.getElem?_eq_getElem hi]
    by_cases c1 : l[i].state = 1
    · by_cases c2 : l[i].until' < d
      · exact .inl ⟨23, by decide, by simp [st, c1, c2]⟩
      · by_cases c3 : may l[i] = 0
        · refine .inr ⟨i, hi, rfl, hid, c1, c2, c3, by simp [st, c1, c2, c3, setAt, hi]⟩
        · exact .inl ⟨may l[i], c3, by simp [st, c1, c2, c3]⟩
    · exact .inl ⟨17, by decide, by simp [st, c1]⟩
theorem e17 (l : List Request) (us : List User) (id : Int) (name : List UInt8) (d : Int) (h : l.length ≤ 100) (hf : Few l) (hu : us.length ≤ 40) : O 17 [.l (enc l), .l (encU us), .i .i64 id, .s name, .i .i64 d] = some (decV (approve l us id name d)) := by
  refine orun (fc := code17) rfl rfl rfl ?_
  have h36 := e36 l id name d 2 37 [.r [.l (encU us)], .r [.s name]] (mayA us name) h hf (fun r => e37 us name hu r)
  unfold approve decV at *
  generalize dec l id name d 2 (mayA us name) = p at *
  simp [code17, h36]
theorem e19 (l : List Request) (us : List User) (id : Int) (name : List UInt8) (d : Int) (h : l.length ≤ 100) (hf : Few l) (hu : us.length ≤ 40) : O 19 [.l (enc l), .l (encU us), .i .i64 id, .s name, .i .i64 d] = some (.t [.ow 35 (enc (reject l us id name d).1), .i .i64 (reject l us id name d).2.2]) := by
  refine orun (fc := code19) rfl rfl rfl ?_
  have h36 := e36 l id name d 3 43 [.r [.s name], .r [.l (encU us)]] (mayR us name) h hf (fun r => e43 us name hu r)
  unfold reject decV at *
  generalize dec l id name d 3 (mayR us name) = p at *
  simp [code19, h36]
set_option maxHeartbeats 8000000 in
theorem e18 (l : List Request) (us : List User) (id : Int) (name : List UInt8) (d : Int) (h : l.length ≤ 100) (hu : us.length ≤ 40) : O 18 [.l (enc l), .l (encU us), .i .i64 id, .s name, .i .i64 d] = some (decV (approve l us id name d)) := by
  refine orun (fc := code18) rfl rfl rfl ?_
  have h41 := e41 l id d (by omega)
  have h22 := e22 us name hu
  unfold gotV at h22
  have h23 := e23 us name 32 hu
  cases hp : rpos l id with
  | none => rw [hp] at h41; simp [placeV] at h41; simp [code18, h41, approve, dec, hp, decV, cz_cells]
  | some i =>
    obtain ⟨hi, _⟩ := rpos_some hp
    rw [hp] at h41; simp [placeV, stAt, hi] at h41
    by_cases c0 : st l[i] d = 0
    · rw [c0] at h41
      cases c1 : has us name 32 with
      | false => rw [c1] at h23; simp [code18, h41, h22, h23, approve, dec, hp, hi, c0, mayA, c1, decV, cz_cells]
      | true =>
        rw [c1] at h23
        by_cases c2 : l[i].maker = name
        · subst c2
          simp [code18, h41, h22, h23, approve, dec, hp, hi, c0, mayA, c1, decV, cz_cells]
        · have c2' : ¬ name = l[i].maker := fun e => c2 e.symm
          by_cases c3 : (got us name).1.limit < amount l[i].command
          · simp [code18, h41, h22, h23, approve, dec, hp, hi, c0, mayA, c1, c2, c2', c3, decV, cz_cells]
          · have h42 := e42 l i 2 name h hi
            simp (config := { maxSteps := 2000000 }) [code18, h41, h22, h23, h42, approve, dec, hp, hi, c0, mayA, c1, c2, c2', c3, decV]
    · simp [code18, h41, approve, dec, hp, hi, c0, decV, cz_cells]
theorem e20 (l : List Request) (us : List User) (id : Int) (name : List UInt8) (d : Int) (h : l.length ≤ 100) (hu : us.length ≤ 40) : O 20 [.l (enc l), .l (encU us), .i .i64 id, .s name, .i .i64 d] = some (.t [.ow 35 (enc (reject l us id name d).1), .i .i64 (reject l us id name d).2.2]) := by
  refine orun (fc := code20) rfl rfl rfl ?_
  have h41 := e41 l id d (by omega)
  have h23 := e23 us name 32 hu
  cases hp : rpos l id with
  | none => rw [hp] at h41; simp [placeV] at h41; simp [code20, h41, reject, dec, hp]
  | some i =>
    obtain ⟨hi, _⟩ := rpos_some hp
    rw [hp] at h41; simp [placeV, stAt, hi] at h41
    by_cases c0 : st l[i] d = 0
    · rw [c0] at h41
      have h42 := e42 l i 3 name h hi
      by_cases c2 : l[i].maker = name
      · subst c2
        simp [code20, h41, h42, reject, dec, hp, hi, c0, mayR]
      · have c2' : ¬ name = l[i].maker := fun e => c2 e.symm
        cases c1 : has us name 32 <;> rw [c1] at h23 <;> simp [code20, h41, h23, h42, reject, dec, hp, hi, c0, mayR, c1, c2, c2']
    · simp [code20, h41, reject, dec, hp, hi, c0]
end Go.Proofs.Ythonmlhljdhlbaa
