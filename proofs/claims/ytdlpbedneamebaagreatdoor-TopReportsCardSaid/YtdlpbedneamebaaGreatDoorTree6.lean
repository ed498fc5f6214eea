/-
  The types of expressions answer; trees out of the count of their nodes.
-/
import Derived.Test.YtdlpbedneamebaaGreatDoorTree
import Derived.Test.YtdlpbedneamebaaGreatDoorSpec4
namespace Go.Proofs.YtdlpbedneamebaaGreatDoor
open Go.VM
variable {X : Orc}
structure Va where
  name : List UInt8
  ty : Int
abbrev Va.cells (x : Va) : List V := [.s x.name, .i .i64 x.ty]
abbrev Va.v (x : Va) : V := .a ([.s x.name, .i .i64 x.ty])
@[simp] theorem Va.all_len (l : List Va) : (encL Va.v l).all (fun x => x.cells.length == 2) = true := encL_all fun _ => rfl
@[simp] theorem Va.len_all (l : List Va) : (∀ x ∈ encL Va.v l, x.cells.length = 2) = True := encL_len fun _ => rfl
theorem l227a (vs : List Va) (hv : vs.length ≤ 1000) (op k : Int) (s : List UInt8) (zss : List (List V)) :
    ∃ r, loopK (O X) [1, 2, 6] body227_1 [(1, .l (encL Va.v vs)), (2, .bx (xc op k s zss)), (6, .i .i64 (0 : Nat))] = some r ∧ ((∃ a b, r = (.r, [(4, .i .i64 a), (5, .i .i64 b)])) ∨ r = (.e 1, [])) := by
  refine loopK_tot (fun i => [(1, .l (encL Va.v vs)), (2, .bx (xc op k s zss)), (6, .i .i64 (i : Int))]) vs.length _ (by simp) (fun i hi => ?_) (by simp [body227_1])
  have hw := wrap_i64 (i + 1) (by omega)
  have h97 := o249 (X := X) vs[i].ty
  by_cases hn : vs[i].name = s
  · by_cases hc : 1 ≤ vs[i].ty ∧ vs[i].ty ≤ 5
    · rw [decide_eq_true hc] at h97
      simp [-Prod.exists, body227_1, hi, hn, h97]
    · rw [decide_eq_false hc] at h97
      simp [-Prod.exists, body227_1, hi, hn, h97]
  · simp [-Prod.exists, body227_1, hi, hw, hn]
set_option maxHeartbeats 1000000 in
theorem t87 (vs : List Va) (hv : vs.length ≤ 1000) : ∀ (n : Nat), n ≤ 100 → ∀ ys : List V, Tr n ys → ∃ a b : Int, O X 227 [.a ys, .l (encL Va.v vs)] = some (.t [.i .i64 a, .i .i64 b]) := by
  intro n
  induction n using Nat.strongRecOn with
  | _ n ih =>
    intro hn ys h
    obtain ⟨op, k, s, zss, rfl, hlen, hz⟩ := h.cells
    obtain ⟨r1, l1, hr1⟩ := l227a (X := X) vs hv op k s zss
    have l2 : ∃ r, loopK (O X) [1, 2, 7, 8] body227_2 [(1, .l (encL Va.v vs)), (2, .bx (xc op k s zss)), (7, .ow 3 (ints [])), (8, .i .i64 ((0 : Nat) : Int))] = some r ∧ ((∃ a b, r = (.r, [(4, .i .i64 a), (5, .i .i64 b)])) ∨ ∃ l : List Int, r = (.e 3, [(2, .bx (xc op k s zss)), (7, .ow 3 (ints l))])) := by
      refine loopK_inv (fun i env => ∃ l : List Int, l.length = i ∧ env = [(1, .l (encL Va.v vs)), (2, .bx (xc op k s zss)), (7, .ow 3 (ints l)), (8, .i .i64 (i : Int))]) zss.length _ (fun i env hI => ?_) (fun i env hi hI => ?_) (fun env hI => ?_) zss.length 0 _ (by omega) ⟨[], rfl, rfl⟩
      · obtain ⟨l, _, rfl⟩ := hI
        simp
      · obtain ⟨l, hl, rfl⟩ := hI
        have hw := wrap_i64 (i + 1) (by omega)
        obtain ⟨m, hm, hT⟩ := hz _ (List.getElem_mem hi)
        obtain ⟨a, b, hab⟩ := ih m hm (by omega) _ hT
        have hT4 := hT.len.1
        by_cases hb : b = 0
        · left
          refine ⟨[(1, .l (encL Va.v vs)), (2, .bx (xc op k s zss)), (7, .ow 3 (ints (l ++ [a]))), (8, .i .i64 ((i + 1 : Nat) : Int))], ?_, l ++ [a], by simp [hl], rfl⟩
          have hm2 : (l.length + 1) * 8 ≤ 140737488355328 := by omega
          simp [body227_2, hi, hw, hab, hT4, hb, hm2]
          simp [encL]
        · right
          exact ⟨(.r, [(4, .i .i64 0), (5, .i .i64 b)]), by simp [body227_2, hi, hab, hT4, hb], by simp, .inl ⟨0, b, rfl⟩⟩
      · obtain ⟨l, hl, rfl⟩ := hI
        exact ⟨(.e 3, [(2, .bx (xc op k s zss)), (7, .ow 3 (ints l))]), by simp [body227_2], by simp, .inr ⟨l, rfl⟩⟩
    obtain ⟨r2, l2, hr2⟩ := l2
    simp only [Int.natCast_zero] at l1 l2
    rw [show ints [] = [] from rfl] at l2
    have : ∃ y, O X 227 [.a (xc op k s zss), .l (encL Va.v vs)] = some y ∧ II y := by
      refine orunE (fc := code227) rfl rfl rfl ?_
      by_cases h1 : op = 1
      · simp [code227, h1]
      by_cases h2 : op = 2
      · simp [code227, h2]
      by_cases h3 : op = 3
      · simp [code227, h3]
      by_cases h4 : op = 4
      · subst h4
        rcases hr1 with ⟨a, b, rfl⟩ | rfl <;> simp [code227, exec_loopK, l1]
      · rcases hr2 with ⟨a, b, rfl⟩ | ⟨l, rfl⟩
        · simp [code227, exec_loopK, l2, h1, h2, h3, h4]
        · obtain ⟨t, u, h98⟩ := t98 (X := X) op l
          cases u <;> simp [code227, exec_loopK, l2, h1, h2, h3, h4, h98]
    obtain ⟨y, h, a, b, rfl⟩ := this
    exact ⟨a, b, h⟩
/-! ### The count of nodes, and the tree -/
theorem exT_zss {m : Nat} {ys : List V} (h : exT (m + 1) ys) : ∃ op k s zss, ys = xc op k s zss ∧ zss.length ≤ maxLen ∧ ∀ zs ∈ zss, exT m zs := by
  obtain ⟨op, k, s, args, rfl, hl, ha⟩ := h
  have key : ∀ args : List V, (∀ y ∈ args, ∃ zs, y = .a zs ∧ exT m zs) → ∃ zss : List (List V), args = zss.map V.a ∧ ∀ zs ∈ zss, exT m zs := by
    intro args
    induction args with
    | nil => intro _; exact ⟨[], rfl, by simp⟩
    | cons y args ih =>
      intro h
      obtain ⟨zs, rfl, hz⟩ := h y (List.mem_cons_self ..)
      obtain ⟨zss, rfl, hzz⟩ := ih fun z hz => h z (List.mem_cons_of_mem _ hz)
      refine ⟨zs :: zss, rfl, fun q hq => ?_⟩
      rcases List.mem_cons.1 hq with rfl | hq
      · exact hz
      · exact hzz q hq
  obtain ⟨zss, rfl, hz⟩ := key args ha
  exact ⟨op, k, s, zss, rfl, by simpa using hl, hz⟩
def Cnt (zss : List (List V)) (i : Nat) (n : Int) : Prop := ∃ ns : List Nat, ns.length = i ∧ (ns.sum : Int) + 1 = n ∧ ∀ (j : Nat) (h1 : j < zss.length) (h2 : j < ns.length), Tr ns[j] zss[j]
theorem Cnt.next {zss : List (List V)} {i : Nat} {n : Int} (h : Cnt zss i n) (hi : i < zss.length) {m : Nat} (hT : Tr m zss[i]) : Cnt zss (i + 1) (n + m) := by
  obtain ⟨ns, rfl, hs, ht⟩ := h
  refine ⟨ns ++ [m], by simp, by simp; omega, fun j h1 h2 => ?_⟩
  by_cases hj : j < ns.length
  · rw [List.getElem_append_left hj]; exact ht j h1 hj
  · have : j = ns.length := by simp at h2; omega
    subst this
    simpa using hT
theorem e269' : ∀ (m : Nat), m ≤ 1000 → ∀ ys : List V, exT (m + 1) ys → ∃ z : Int, O X 269 [.a ys, .i .i64 m] = some (.i .i64 z) ∧ 1 ≤ z ∧ z ≤ m + 1 ∧ (z ≤ m → Tr z.toNat ys) := by
  intro m
  induction m using Nat.strongRecOn with
  | _ m ih =>
    intro hm ys hx
    obtain ⟨op, k, s, zss, rfl, hl, ha⟩ := exT_zss hx
    have hml : zss.length ≤ 9223372036854775807 := by unfold maxLen at hl; omega
    have hlp : ∃ r, loopK (O X) [1, 2, 5, 6] body269_1 [(1, .i .i64 m), (2, .bx (xc op k s zss)), (5, .i .i64 1), (6, .i .i64 ((0 : Nat) : Int))] = some r ∧ ∃ z : Int, r = (.e 0, [(5, .i .i64 z)]) ∧ 1 ≤ z ∧ z ≤ m + 1 ∧ (z ≤ m → Cnt zss zss.length z) := by
      refine loopK_inv (fun i env => ∃ n : Int, env = [(1, .i .i64 m), (2, .bx (xc op k s zss)), (5, .i .i64 n), (6, .i .i64 (i : Int))] ∧ 1 ≤ n ∧ n ≤ m + 1 ∧ (n ≤ m → Cnt zss i n)) zss.length _ (fun i env hI => ?_) (fun i env hi hI => ?_) (fun env hI => ?_) zss.length 0 _ (by omega) ⟨1, rfl, by omega, by omega, fun _ => ⟨[], rfl, rfl, by simp⟩⟩
      · obtain ⟨n, rfl, _⟩ := hI
        simp
      · obtain ⟨n, rfl, h1, h2, h3⟩ := hI
        by_cases hn : n ≤ m
        · left
          have hx1 := ha _ (List.getElem_mem hi)
          obtain ⟨z, hz, hz1, hz2, hz3⟩ := ih ((m : Int) - n).toNat (by omega) (by omega) _ (exT_le (by omega) hx1)
          have hq' : ((((m : Int) - n).toNat : Nat) : Int) = (m : Int) - n := by omega
          rw [hq'] at hz hz2 hz3
          have hw1 := wrap_i64 ((m : Int) - n) (by omega)
          have hw2 := wrap_i64 (n + z) (by omega)
          have hw3 := wrap_i64 ((i : Int) + 1) (by omega)
          have h4 : zss[i].length = 4 := by
            obtain ⟨q, hq⟩ : ∃ q, m = q + 1 := ⟨m - 1, by omega⟩
            subst hq
            obtain ⟨_, _, _, _, h, _⟩ := hx1
            rw [h]; rfl
          refine ⟨[(1, .i .i64 m), (2, .bx (xc op k s zss)), (5, .i .i64 (n + z)), (6, .i .i64 ((i + 1 : Nat) : Int))], ?_, n + z, rfl, by omega, by omega, fun h => ?_⟩
          · simp [body269_1, hi, hn, h4, hw1, hz, hw2, hw3]
          · have := (h3 hn).next hi (hz3 (by omega))
            rwa [show ((z.toNat : Nat) : Int) = z from by omega] at this
        · right
          exact ⟨(.e 0, [(5, .i .i64 n)]), by simp [body269_1, hi, hn], by simp, n, rfl, h1, h2, fun h => absurd h hn⟩
      · obtain ⟨n, rfl, h1, h2, h3⟩ := hI
        exact ⟨(.e 0, [(5, .i .i64 n)]), by simp [body269_1], by simp, n, rfl, h1, h2, h3⟩
    obtain ⟨_, hlp, z, rfl, h1, h2, h3⟩ := hlp
    simp only [Int.natCast_zero] at hlp
    refine ⟨z, orun (fc := code269) rfl rfl rfl (by simp [code269, exec_loopK, hlp]), h1, h2, fun h => ?_⟩
    obtain ⟨ns, hns, hs, ht⟩ := h3 h
    have : z.toNat = ns.sum + 1 := by omega
    rw [this]
    exact Tr.mk op k s zss ns hns.symm ht
theorem t57 (ys : List V) (h : exT 65 ys) : ∃ t, O X 244 [.a ys, .i .i64 64] = some (.b t) ∧ (t = false → ∃ n, n ≤ 64 ∧ Tr n ys) := by
  obtain ⟨z, hz, h1, h2, h3⟩ := e269' (X := X) 64 (by omega) ys h
  refine ⟨decide (64 < z), orun (fc := code244) rfl rfl rfl ?_, fun ht => ?_⟩
  · obtain ⟨op, k, s, zss, rfl, hl, ha⟩ := exT_zss h
    simp at hz
    simp [code244, hz]
  · have : ¬ 64 < z := by simpa using ht
    exact ⟨z.toNat, by omega, h3 (by omega)⟩
end Go.Proofs.YtdlpbedneamebaaGreatDoor
namespace Go.Proofs.YtdlpbedneamebaaGreatDoor
open Go.VM
variable {X : Orc}
theorem t86 (ys : List V) (h : exT 65 ys) : ∃ n : Int, O X 226 [.a ys] = some (.i .i64 n) ∧ (n = 0 → ∃ k, k ≤ 64 ∧ Tr k ys) := by
  obtain ⟨t, h57, ht⟩ := t57 (X := X) ys h
  have h4 : ys.length = 4 := by obtain ⟨_, _, _, _, rfl, _⟩ := exT_zss h; rfl
  have hcl : (∀ y ∈ ys, y.cell = true) = True := by obtain ⟨_, _, _, _, rfl, _⟩ := exT_zss h; simp
  cases t with
  | true => exact ⟨5, orun (fc := code226) rfl rfl (by simp [V.arg]) (by simp [code226, h4, hcl, h57]), by simp⟩
  | false =>
    obtain ⟨k, hk, hT⟩ := ht rfl
    obtain ⟨z, hz, _⟩ := t93 (X := X) k (by omega) ys hT
    obtain ⟨u, hu⟩ := t94 (X := X) k (by omega) ys hT
    obtain ⟨l, v, hv, hl, h95⟩ := t95 (X := X) k (by omega) ys hT
    have hlp : ∃ r, loopK (O X) [3, 4] body226_1 [(3, v), (4, .i .i64 ((0 : Nat) : Int))] = some r ∧ (r = (.r, [(2, .i .i64 4)]) ∨ r = (.e 0, [])) := by
      refine loopK_tot (fun i => [(3, v), (4, .i .i64 (i : Int))]) l.length _ (fun i => by rcases hv with rfl | rfl <;> simp) (fun i hi => ?_) (by rcases hv with rfl | rfl <;> simp [body226_1])
      have hw := wrap_i64 (i + 1) (by omega)
      obtain ⟨b, hb⟩ := t96 (X := X) l[i]
      rcases hv with rfl | rfl <;> cases b <;> simp [-Prod.exists, body226_1, hi, hw, hb]
    obtain ⟨r, hlp, hr⟩ := hlp
    simp only [Int.natCast_zero] at hlp
    refine (?_ : ∃ n : Int, O X 226 [.a ys] = some (.i .i64 n)).imp fun n h => ⟨h, fun _ => ⟨k, hk, hT⟩⟩
    have : ∃ y, O X 226 [.a ys] = some y ∧ I1 y := by
      refine orunE (fc := code226) rfl rfl (by simp [V.arg]) ?_
      by_cases h8 : 8 < z
      · simp [code226, h4, hcl, h57, hz, h8]
      cases u with
      | false => simp [code226, h4, hcl, h57, hz, h8, hu]
      | true =>
        rcases hv with rfl | rfl <;> rcases hr with rfl | rfl <;> simp [code226, exec_loopK, h4, hcl, h57, hz, h8, hu, h95, hlp]
    obtain ⟨y, h, n, rfl⟩ := this
    exact ⟨n, h⟩
theorem t76 (ys : List V) (h : exT 65 ys) (vs : List Va) (hv : vs.length ≤ 1000) : ∃ a b : Int, O X 205 [.a ys, .l (encL Va.v vs)] = some (.t [.i .i64 a, .i .i64 b]) := by
  obtain ⟨n, h86, hn⟩ := t86 (X := X) ys h
  have h4 : ys.length = 4 := by obtain ⟨_, _, _, _, rfl, _⟩ := exT_zss h; rfl
  have hcl : (∀ y ∈ ys, y.cell = true) = True := by obtain ⟨_, _, _, _, rfl, _⟩ := exT_zss h; simp
  by_cases h0 : n = 0
  · obtain ⟨k, hk, hT⟩ := hn h0
    subst h0
    obtain ⟨a, b, hab⟩ := t87 (X := X) vs hv k (by omega) ys hT
    exact ⟨a, b, orun (fc := code205) rfl rfl (by simp [V.arg]) (by simp [code205, h4, hcl, h86, hab])⟩
  · exact ⟨0, n, orun (fc := code205) rfl rfl (by simp [V.arg]) (by simp [code205, h4, hcl, h86, h0])⟩
theorem t60 (ys : List V) (h : exT 65 ys) (vs : List Va) (hv : vs.length ≤ 1000) (w : Int) : ∃ n : Int, O X 173 [.a ys, .l (encL Va.v vs), .i .i64 w] = some (.i .i64 n) := by
  obtain ⟨a, b, h76⟩ := t76 (X := X) ys h vs hv
  have h4 : ys.length = 4 := by obtain ⟨_, _, _, _, rfl, _⟩ := exT_zss h; rfl
  have hcl : (∀ y ∈ ys, y.cell = true) = True := by obtain ⟨_, _, _, _, rfl, _⟩ := exT_zss h; simp
  have : ∃ y, O X 173 [.a ys, .l (encL Va.v vs), .i .i64 w] = some y ∧ I1 y := by
    refine orunE (fc := code173) rfl rfl (by simp [V.arg]) ?_
    by_cases hb : b = 0 <;> by_cases ha : a = w <;> simp [code173, h4, hcl, h76, ha, hb]
  obtain ⟨y, h, n, rfl⟩ := this
  exact ⟨n, h⟩
def vars : List Va := [⟨[98, 97, 108, 97, 110, 99, 101], 2⟩, ⟨[108, 111, 119, 101, 115, 116], 2⟩, ⟨[118, 111, 108, 117, 109, 101], 2⟩, ⟨[97, 109, 111, 117, 110, 116], 2⟩, ⟨[99, 111, 117, 110, 116], 1⟩, ⟨[97, 103, 101], 1⟩, ⟨[100, 97, 121], 4⟩]
theorem o174 : O X 174 [] = some (.ow 272 (encL Va.v vars)) := orun (fc := code174) rfl rfl rfl (by kernel_rfl)
theorem t43 (x : Rule) (h : exT 65 x.amount.cells) : ∃ n : Int, O X 133 [x.v] = some (.i .i64 n) := by
  obtain ⟨t, ht⟩ := t38 (X := X) x.name
  have h61 := o174 (X := X)
  obtain ⟨n, hn⟩ := t60 (X := X) x.amount.cells h vars (by decide) 2
  have : ∃ y, O X 133 [x.v] = some y ∧ I1 y := by
    refine orunE (fc := code133) rfl rfl rfl ?_
    generalize encL Va.v vars = vs at h61 hn
    cases t <;> simp [code133, ht, h61, hn]
  obtain ⟨y, h, n, rfl⟩ := this
  exact ⟨n, h⟩
theorem t42 (x : Fee) (h : exT 65 x.when.cells) (h' : exT 65 x.amount.cells) : ∃ n : Int, O X 132 [x.v] = some (.i .i64 n) := by
  obtain ⟨t, ht⟩ := t38 (X := X) x.name
  have h61 := o174 (X := X)
  obtain ⟨n, hn⟩ := t60 (X := X) x.when.cells h vars (by decide) 5
  obtain ⟨m, hm⟩ := t60 (X := X) x.amount.cells h' vars (by decide) 2
  have : ∃ y, O X 132 [x.v] = some y ∧ I1 y := by
    refine orunE (fc := code132) rfl rfl rfl ?_
    generalize encL Va.v vars = vs at h61 hn hm
    by_cases h0 : n = 0 <;> cases t <;> simp [code132, ht, h61, hn, hm, h0]
  obtain ⟨y, h, n, rfl⟩ := this
  exact ⟨n, h⟩
def c00 : Calendar := ⟨[], [], []⟩
theorem t40 (l : List Calendar) (s : List UInt8) (h : l.length ≤ 1000) : ∃ (c : Calendar) (t : Bool), O X 130 [.l (encL Calendar.v l), .s s] = some (.t [c.v, .b t]) := by
  have hl : ∃ r, loopK (O X) [0, 1, 4, 6] body130_1 [(0, .l (encL Calendar.v l)), (1, .s s), (4, .bx c00.cells), (6, .i .i64 ((0 : Nat) : Int))] = some r ∧ ((∃ c : Calendar, r = (.r, [(4, .bx c.cells), (5, .b true)])) ∨ r = (.e 0, [(4, .bx c00.cells)])) := by
    refine loopK_tot (fun i => [(0, .l (encL Calendar.v l)), (1, .s s), (4, .bx c00.cells), (6, .i .i64 (i : Int))]) l.length _ (by simp) (fun i hi => ?_) (by simp [body130_1])
    have hw := wrap_i64 (i + 1) (by omega)
    by_cases hc : l[i].name = s
    · exact ⟨(.r, [(4, .bx l[i].cells), (5, .b true)]), by simp [body130_1, hi, hc, c00], .inr ⟨by simp, .inl ⟨l[i], rfl⟩⟩⟩
    · simp [-Prod.exists, body130_1, hi, hw, hc]
  obtain ⟨r, hl, hr⟩ := hl
  simp only [Int.natCast_zero] at hl
  rw [show c00.cells = [.s [], .l [], .l []] from rfl] at hl hr
  rcases hr with ⟨c, rfl⟩ | rfl
  · exact ⟨c, true, orun (fc := code130) rfl rfl rfl (by simp [code130, exec_loopK, hl])⟩
  · exact ⟨c00, false, orun (fc := code130) rfl rfl rfl (by simp [code130, exec_loopK, hl, c00])⟩
end Go.Proofs.YtdlpbedneamebaaGreatDoor
namespace Go.Proofs.YtdlpbedneamebaaGreatDoor
open Go.VM
variable {X : Orc}
theorem okX_65 {ys : List V} (h : exT 102 ys) : exT 65 ys := exT_le (by omega) h
theorem l80a (p : Product) (hf : ∀ f ∈ p.fees, f.okX) (h4 : p.fees.length ≤ 4) : ∃ r, loopK (O X) [3, 14] body80_1 [(3, .bx p.cells), (14, .i .i64 0)] = some r ∧ ((∃ n, r = (.r, [(6, .i .i64 n)])) ∨ r = (.e 0, [(3, .bx p.cells)])) := by
  have := loopK_tot (o := O X) (kin := [3, 14]) (c := body80_1) (fun i => [(3, .bx p.cells), (14, .i .i64 (i : Int))]) p.fees.length (fun r => (∃ n, r = (.r, [(6, .i .i64 n)])) ∨ r = (.e 0, [(3, .bx p.cells)])) (by simp) (fun i hi => by
    have hw := wrap_i64 (i + 1) (by omega)
    have hx := hf _ (List.getElem_mem hi)
    obtain ⟨n, hn⟩ := t42 (X := X) p.fees[i] (okX_65 hx.1) (okX_65 hx.2)
    by_cases h0 : n = 0 <;> simp [-Prod.exists, body80_1, hi, hw, hn, h0]) (by simp [body80_1])
  simpa using this
theorem l80b (p : Product) (hf : ∀ f ∈ p.rules, f.okX) (h4 : p.rules.length ≤ 4) : ∃ r, loopK (O X) [3, 16] body80_2 [(3, .bx p.cells), (16, .i .i64 0)] = some r ∧ ((∃ n, r = (.r, [(6, .i .i64 n)])) ∨ r = (.e 2, [])) := by
  have := loopK_tot (o := O X) (kin := [3, 16]) (c := body80_2) (fun i => [(3, .bx p.cells), (16, .i .i64 (i : Int))]) p.rules.length (fun r => (∃ n, r = (.r, [(6, .i .i64 n)])) ∨ r = (.e 2, [])) (by simp) (fun i hi => by
    have hw := wrap_i64 (i + 1) (by omega)
    have hx := hf _ (List.getElem_mem hi)
    obtain ⟨n, hn⟩ := t43 (X := X) p.rules[i] (okX_65 hx)
    by_cases h0 : n = 0 <;> simp [-Prod.exists, body80_2, hi, hw, hn, h0]) (by simp [body80_2])
  simpa using this
theorem cV_ex (q : Option Currency) : ∃ (c : Currency) (t : Bool), cV q = .t [c.v, .b t] := by
  cases q with
  | none => exact ⟨c0, false, rfl⟩
  | some c => exact ⟨c, true, rfl⟩
def reg13 : C := (.q [(11, (.ite (.ite (.ite (.op (.bin .eql) [(.op (.ld 1 false) [(.op (.fa 4 1) [(.sl 3)])]), (.k (.i .i64 1))]) (.k (.b true)) (.op (.bin .eql) [(.op (.ld 1 false) [(.op (.fa 4 1) [(.sl 3)])]), (.k (.i .i64 3))])) (.k (.b true)) (.op (.bin .eql) [(.op (.ld 1 false) [(.op (.fa 4 1) [(.sl 3)])]), (.k (.i .i64 6))])) (.k (.b true)) (.op (.bin .eql) [(.op (.ld 1 false) [(.op (.fa 4 1) [(.sl 3)])]), (.k (.i .i64 12))])))])
def code80' : FCode := ⟨3, [.tmp 6],
 (.seq (.s [.box 3 (.t 0), .as 6 (.c (.i .i64 0))] [])
 (.seq (.seq (.q [(21, (.op (.un .not) [(.op (.call false 128) [(.op (.ld 1 false) [(.op (.fa 0 1) [(.sl 3)])])])]))])
 (.cond (.sl 21) (.seq (.q [(6, (.k (.i .i64 4)))])
 (.ret [6])) .skip))
 (.seq (.seq (.s [.mv 23 (.t 1), .fa 24 1 1 (.t 3), .q 25 (.ld 1 false) [(.t 24)], .call (some 26) 129 [(.t 23), (.t 25)], .mv 22 (.t 26), .ext 27 0 22, .ext 28 1 22, .alo 7 [(.s []), (.i .i64 0)], .sto 2 (.t 7) (.t 27), .as 8 (.t 28)] [23, 24, 25, 26, 22, 27, 28, 7])
 (.seq (.q [(30, (.op (.un .not) [(.sl 8)]))])
 (.cond (.sl 30) (.seq (.q [(6, (.k (.i .i64 14)))])
 (.ret [6])) .skip)))
 (.seq (.seq (.s [.mv 32 (.t 2), .fa 33 2 1 (.t 3), .q 34 (.ld 1 false) [(.t 33)], .call (some 35) 130 [(.t 32), (.t 34)], .mv 31 (.t 35), .ext 36 0 31, .ext 37 1 31, .alo 9 [(.s []), (.l []), (.l [])], .sto 3 (.t 9) (.t 36), .as 10 (.t 37)] [32, 33, 34, 35, 31, 36, 37, 9])
 (.seq (.q [(39, (.op (.un .not) [(.sl 10)]))])
 (.cond (.sl 39) (.seq (.q [(6, (.k (.i .i64 11)))])
 (.ret [6])) .skip)))
 (.seq reg13
 (.seq (.seq (.q [(85, (.ite (.ite (.ite (.ite (.ite (.op (.un .not) [(.op (.call false 81) [(.op (.ld 1 false) [(.op (.fa 3 1) [(.sl 3)])])])]) (.k (.b true)) (.op (.un .not) [(.sl 11)])) (.k (.b true)) (.op (.bin .lss) [(.op (.ld 1 false) [(.op (.fa 5 1) [(.sl 3)])]), (.k (.i .i64 0))])) (.k (.b true)) (.op (.bin .gtr) [(.op (.ld 1 false) [(.op (.fa 5 1) [(.sl 3)])]), (.k (.i .i64 1000000000000))])) (.k (.b true)) (.op (.bin .lss) [(.op (.ld 1 false) [(.op (.fa 6 1) [(.sl 3)])]), (.k (.i .i64 0))])) (.k (.b true)) (.op (.bin .gtr) [(.op (.ld 1 false) [(.op (.fa 6 1) [(.sl 3)])]), (.k (.i .i64 1000000))])))])
 (.cond (.sl 85) (.seq (.q [(6, (.k (.i .i64 1)))])
 (.ret [6])) .skip))
 (.seq (.seq (.q [(12, (.op (.call false 131) [(.op (.ld 5 true) [(.op (.fa 7 5) [(.sl 3)])])]))])
 (.seq (.q [(90, (.op (.bin .neq) [(.sl 12), (.k (.i .i64 0))]))])
 (.cond (.sl 90) (.seq (.q [(6, (.sl 12))])
 (.ret [6])) .skip)))
 (.seq (.seq (.q [(13, (.op (.call false 131) [(.op (.ld 5 true) [(.op (.fa 12 5) [(.sl 3)])])]))])
 (.seq (.q [(96, (.op (.bin .neq) [(.sl 13), (.k (.i .i64 0))]))])
 (.cond (.sl 96) (.seq (.q [(6, (.sl 13))])
 (.ret [6])) .skip)))
 (.seq (.seq (.q [(107, (.ite (.op (.bin .gtr) [(.op .len [(.op (.ld 1 false) [(.op (.fa 17 1) [(.sl 3)])])]), (.k (.i .i64 4))]) (.k (.b true)) (.op (.bin .gtr) [(.op .len [(.op (.ld 1 false) [(.op (.fa 18 1) [(.sl 3)])])]), (.k (.i .i64 4))])))])
 (.cond (.sl 107) (.seq (.q [(6, (.k (.i .i64 5)))])
 (.ret [6])) .skip))
 (.seq (.seq (.q [(14, (.k (.i .i64 0)))])
 (.blk 0 (.loop [3, 14] body80_1)))
 (.seq (.seq (.q [(16, (.k (.i .i64 0)))])
 (.blk 2 (.loop [3, 16] body80_2)))
 (.seq (.q [(6, (.k (.i .i64 0)))])
 (.ret [6])))))))))))))⟩
theorem reg13_run (p : Product) (u v w : V) : ∃ t : Bool, exec (O X) reg13 [(0, u), (1, v), (2, w), (3, .bx p.cells), (6, .i .i64 0), (8, .b true), (10, .b true), (21, .b false), (30, .b false), (39, .b false)] = some (.n, [(0, u), (1, v), (2, w), (3, .bx p.cells), (6, .i .i64 0), (8, .b true), (10, .b true), (11, .b t), (21, .b false), (30, .b false), (39, .b false)]) := by
  by_cases e1 : p.every = 1
  · exact ⟨true, by simp [reg13, e1]⟩
  by_cases e2 : p.every = 3
  · exact ⟨true, by simp [reg13, e2]⟩
  by_cases e3 : p.every = 6
  · exact ⟨true, by simp [reg13, e3]⟩
  exact ⟨decide (p.every = 12), by simp [reg13, e1, e2, e3]⟩
set_option maxHeartbeats 8000000 in
theorem t13 (p : Product) (cs : List Currency) (cl : List Calendar) (hc : cs.length ≤ 1000) (hcl : cl.length ≤ 1000) (hf : ∀ f ∈ p.fees, f.okX) (hr : ∀ f ∈ p.rules, f.okX) : ∃ n : Int, O X 80 [p.v, .l (encC cs), .l (encL Calendar.v cl)] = some (.i .i64 n) := by
  obtain ⟨t, ht⟩ := t38 (X := X) p.name
  have h39 := e129 (X := X) cs p.currency hc
  obtain ⟨c, u, hcu⟩ := cV_ex (findC cs p.currency)
  rw [hcu] at h39
  obtain ⟨d, v, h40⟩ := t40 (X := X) cl p.calendar hcl
  have h37 := o81 (X := X) p.from'
  generalize decide (0 ≤ p.from' ∧ p.from' ≤ 73048) = t37 at h37
  obtain ⟨n1, hn1⟩ := t41 (X := X) p.credit
  obtain ⟨n2, hn2⟩ := t41 (X := X) p.debit
  obtain ⟨ev, hev⟩ := reg13_run (X := X) p p.v (.l (encC cs)) (.l (encL Calendar.v cl))
  have l1 := fun h4 => l80a (X := X) p hf h4
  have l2 := fun h4 => l80b (X := X) p hr h4
  have : ∃ y, O X 80 [p.v, .l (encC cs), .l (encL Calendar.v cl)] = some y ∧ I1 y := by
    refine orunE (fc := code80') rfl rfl rfl ?_
    cases t with
    | false => simp [code80', ht]
    | true =>
    cases u with
    | false => simp [code80', ht, h39]
    | true =>
    cases v with
    | false => simp [code80', ht, h39, h40]
    | true =>
    cases t37 with
    | false => simp [code80', ht, h39, h40, hev, h37]
    | true =>
    cases ev with
    | false => simp [code80', ht, h39, h40, hev, h37]
    | true =>
    by_cases c1 : p.overdraft < 0
    · simp [code80', ht, h39, h40, hev, h37, c1]
    by_cases c2 : 1000000000000 < p.overdraft
    · simp [code80', ht, h39, h40, hev, h37, c1, c2]
    by_cases c3 : p.taxPpm < 0
    · simp [code80', ht, h39, h40, hev, h37, c1, c2, c3]
    by_cases c4 : 1000000 < p.taxPpm
    · simp [code80', ht, h39, h40, hev, h37, c1, c2, c3, c4]
    by_cases c5 : n1 = 0
    rotate_left
    · simp [code80', ht, h39, h40, hev, h37, c1, c2, c3, c4, hn1, c5]
    by_cases c6 : n2 = 0
    rotate_left
    · simp [code80', ht, h39, h40, hev, h37, c1, c2, c3, c4, hn1, hn2, c5, c6]
    by_cases c7 : 4 < p.fees.length
    · have c7' : (4 : Int) < (p.fees.length : Int) := by omega
      simp [code80', ht, h39, h40, hev, h37, c1, c2, c3, c4, hn1, hn2, c5, c6, c7']
    have c7' : ¬ (4 : Int) < (p.fees.length : Int) := by omega
    by_cases c8 : 4 < p.rules.length
    · have c8' : (4 : Int) < (p.rules.length : Int) := by omega
      simp [code80', ht, h39, h40, hev, h37, c1, c2, c3, c4, hn1, hn2, c5, c6, c7', c8']
    have c8' : ¬ (4 : Int) < (p.rules.length : Int) := by omega
    obtain ⟨s1, hl1, hs1⟩ := l1 (by omega)
    obtain ⟨s2, hl2, hs2⟩ := l2 (by omega)
    rcases hs1 with ⟨n, rfl⟩ | rfl
    · simp [code80', exec_loopK, ht, h39, h40, hev, h37, c1, c2, c3, c4, hn1, hn2, c5, c6, c7', c8', hl1]
    · rcases hs2 with ⟨n, rfl⟩ | rfl <;> simp [code80', exec_loopK, ht, h39, h40, hev, h37, c1, c2, c3, c4, hn1, hn2, c5, c6, c7', c8', hl1, hl2]
  obtain ⟨y, h, n, rfl⟩ := this
  exact ⟨n, h⟩
end Go.Proofs.YtdlpbedneamebaaGreatDoor
