/-
  The kernel that posts an entry, where nothing is refused: it defers a closure, which finds nothing to undo.
-/
import Derived.Test.YtdlpbedneamebaaGreatDoorCode
import Derived.Test.YtdlpbedneamebaaGreatDoorVmV
import Derived.Test.YtdlpbedneamebaaGreatDoorVmN
import Derived.Test.YtdlpbedneamebaaGreatDoorTypes
namespace Go.Proofs.YtdlpbedneamebaaGreatDoor
open Go.VM Go.RowKit
noncomputable def code11 : Code := Tryz.f11.body.getD .skip
noncomputable def reg0 : Array Oper := match code11 with | .seq (.region _ x _) _ => x | _ => #[]
noncomputable def reg1 : Array Oper := match code11 with | .seq _ (.seq (.region _ x _) _) => x | _ => #[]
noncomputable def rest11 : Code := match code11 with | .seq _ (.seq _ r) => r | _ => .skip
theorem body11 : Tryz.f11.body = some (.seq (.region 0 reg0 false) (.seq (.region 1 reg1 false) rest11)) := by kernel_rfl
def z22 : List V := [.l [], .l [], .l [], .i .i64 0, .i .i64 0, .i .i64 0, .i .i64 0, .i .i64 0, .i .i64 0, .i .i64 0, .i .i64 0, .i .i64 0, .i .i64 0, .i .i64 0, .i .i64 0, .i .i64 0, .i .i64 0, .l [], .l [], .l [], .l [], .l []]
def z10 : List V := [.i .i64 0, .i .i64 0, .i .i64 0, .i .i64 0, .i .i64 0, .i .i64 0, .s [], .s [], .l [], .i .u64 0]
def ss0 : List St := [.box 2 (.t 0), .box 3 (.t 1), .alo 4 z22, .alo 5 [.i .i64 0]]
theorem toSts0 : toSts Tryz.prog reg0.toList = some ss0 := by kernel_rfl
def d2 : DC := .reg [.q 9 (.ld 10 true) [.t 3], .call (some 10) 24 [.t 9], .sto 1 (.t 5) (.t 10)]
def d4 : DC := .reg [.fa 14 19 1 (.t 2), .q 15 (.ld 1 false) [.t 14], .fa 16 6 1 (.t 3), .q 17 (.ld 1 false) [.t 16], .call (some 18) 25 [.t 15, .t 17], .mv 13 (.t 18), .ext 19 0 13, .ext 20 1 13, .alo 6 [.i .i64 0, .i .i64 0, .i .i64 0, .i .i64 0, .i .i64 0, .i .i64 0, .s [], .s [], .l [], .i .u64 0], .sto 10 (.t 6) (.t 19), .as 7 (.t 20)]
def d6 : DC := .reg [.q 22 (.ld 22 true) [.t 4], .sto 22 (.t 4) (.t 22), .sto 1 (.t 5) (.c (.i .i64 12))]
def d7 : DC := .reg [.q 23 (.ld 22 true) [.t 2], .q 24 (.ld 10 true) [.t 3], .call (some 25) 26 [.t 23, .t 24], .sto 1 (.t 5) (.t 25)]
def d9 : DC := .reg [.q 28 (.ld 22 true) [.t 2], .q 29 (.ld 10 true) [.t 3], .call (some 30) 27 [.t 28, .t 29], .sto 1 (.t 5) (.t 30)]
def d11 : DC := .reg [.q 33 (.ld 22 true) [.t 2], .sto 22 (.t 4) (.t 33)]
def d12 : DC := .reg [.fa 35 19 1 (.t 2), .q 36 (.ld 1 false) [.t 35], .q 37 (.ld 10 true) [.t 3], .call (some 38) 28 [.t 36, .t 37], .mv 34 (.t 38), .ext 39 0 34, .ext 40 1 34, .fa 41 19 1 (.t 4), .sto 1 (.t 41) (.t 39), .sto 1 (.t 5) (.t 40)]
def dck (n : Nat) : DC := .seq (.reg [.q n (.ld 1 false) [.t 5], .q (n + 1) (.bin .neq) [.t n, .c (.i .i64 0)]]) (.cond (.sl (n + 1)) .ret .skip)
def dc11 : DC := .seq (.seq d2 (dck 11)) (.seq (.seq d4 (.seq (.reg [.mv 21 (.t 7)]) (.cond (.sl 21) (.seq d6 .ret) .skip))) (.seq (.seq d7 (dck 26)) (.seq (.seq d9 (dck 31)) (.seq d11 (.seq d12 .ret)))))
theorem comp11 : compD Tryz.prog 42 [2, 4, 5] rest11 = some dc11 := by kernel_rfl
def code23 : FCode := ⟨3, [],
 (.seq (.q [(14, (.ite (.op (.bin .neq) [(.op (.ld 1 false) [(.sl 0)]), (.k (.i .i64 0))]) (.k (.b true)) (.op (.bin .neq) [(.op .len [(.op (.ld 1 false) [(.op (.fa 19 1) [(.sl 1)])])]), (.op (.bin .add) [(.op .len [(.op (.ld 1 false) [(.op (.fa 19 1) [(.sl 2)])])]), (.k (.i .i64 1))])])))])
 (.cond (.sl 14) (.s [.bld 15 [(.l []), (.l []), (.l []), (.i .i64 0), (.i .i64 0), (.i .i64 0), (.i .i64 0), (.i .i64 0), (.i .i64 0), (.i .i64 0), (.i .i64 0), (.i .i64 0), (.i .i64 0), (.i .i64 0), (.i .i64 0), (.i .i64 0), (.i .i64 0), (.l []), (.l []), (.l []), (.l []), (.l [])] [] [], .sto 22 (.t 1) (.t 15)] [15]) .skip))⟩
theorem comp23 : compile Tryz.prog Tryz.f23 = some code23 := by kernel_rfl
noncomputable def op10 : Oper := (reg1[0]?).getD default
noncomputable def op11 : Oper := (reg1[1]?).getD default
theorem reg1_eq : reg1 = #[op10, op11] := by kernel_rfl
theorem nt11 : Tryz.f11.ntmps = 42 := Tryz.ntmps11
theorem res11 : resOf Tryz.prog Tryz.f11.results.toList = some [.cell 4 22 true, .cell 5 1 false] := by kernel_rfl
theorem keep0 : ((reg0.toList.flatMap fun o => o.dst.toList).filter fun t => !(List.range 42).contains t) = [] := by kernel_rfl
theorem box_reps {P : Program} {Im : Nat → Prop} {w : World} {base : Nat} {env : Env} {T : Tm} (hE : Ents P Im w base env T) (hIm : ∀ b, Im b → b < w.heap.size) {n : Nat} {cs : List V} (h : get n env = some (.bx cs)) : ∃ u, T n = some u ∧ Rep (All w) w u (.r cs) := by
  obtain ⟨u, hu, he⟩ := hE.ent n _ h
  obtain ⟨⟨g, vs, ty, rfl, hb, hg, hc, hr⟩, _⟩ := he
  have hlt : g < w.heap.size := (Array.getElem?_eq_some_iff.1 hg).1
  have hcell : ∀ (j : Nat) u, vs[j]? = some u → w.cell? ((⟨g, 0, none⟩ : Addr).add j) = some u := fun j u hj => by
    rw [add_zero]; simp [World.cell?, hg, hj]
  exact ⟨_, hu, .r _ cs vs hlt hc hr.1 hcell fun j u x hu hx => (hr.2 j u x hu hx).move hIm fun _ _ => rfl⟩
section
variable {o : Orc} {b0 b1 b2 b3 b4 b5 b6 b7 b8 b9 b10 b11 b12 b13 b14 b15 b16 b17 b18 b20 b21 e0 e1 e2 e3 e4 e5 e7 e8 e9 : V} {j0 js : List V} {ky : List UInt8}
set_option maxHeartbeats 8000000 in
theorem run11 (cb0 : V.cell b0 = true) ( cb1 : V.cell b1 = true) ( cb2 : V.cell b2 = true) ( cb3 : V.cell b3 = true) ( cb4 : V.cell b4 = true) ( cb5 : V.cell b5 = true) ( cb6 : V.cell b6 = true) ( cb7 : V.cell b7 = true) ( cb8 : V.cell b8 = true) ( cb9 : V.cell b9 = true) ( cb10 : V.cell b10 = true) ( cb11 : V.cell b11 = true) ( cb12 : V.cell b12 = true) ( cb13 : V.cell b13 = true) ( cb14 : V.cell b14 = true) ( cb15 : V.cell b15 = true) ( cb16 : V.cell b16 = true) ( cb17 : V.cell b17 = true) ( cb18 : V.cell b18 = true) ( cb20 : V.cell b20 = true) ( cb21 : V.cell b21 = true) (h24 : o 24 [.a [e0, e1, e2, e3, e4, e5, .s ky, e7, e8, e9]] = some (.i .i64 0)) (h25 : o 25 [.l j0, .s ky] = some (.t [.a z10, .b false])) (h26 : o 26 [.a [b0, b1, b2, b3, b4, b5, b6, b7, b8, b9, b10, b11, b12, b13, b14, b15, b16, b17, b18, .l j0, b20, b21], .a [e0, e1, e2, e3, e4, e5, .s ky, e7, e8, e9]] = some (.i .i64 0)) (h27 : o 27 [.a [b0, b1, b2, b3, b4, b5, b6, b7, b8, b9, b10, b11, b12, b13, b14, b15, b16, b17, b18, .l j0, b20, b21], .a [e0, e1, e2, e3, e4, e5, .s ky, e7, e8, e9]] = some (.i .i64 0)) (h28 : o 28 [.l j0, .a [e0, e1, e2, e3, e4, e5, .s ky, e7, e8, e9]] = some (.t [.ow 59 js, .i .i64 0])) (A C : V) :
    ∃ env', execD o dc11 [(0, A), (1, C), (2, .bx [b0, b1, b2, b3, b4, b5, b6, b7, b8, b9, b10, b11, b12, b13, b14, b15, b16, b17, b18, .l j0, b20, b21]), (3, .bx [e0, e1, e2, e3, e4, e5, .s ky, e7, e8, e9]), (4, .bx z22), (5, .bx [.i .i64 0]), (8, .ud)] = some (.r, env') ∧ get 2 env' = some (.bx [b0, b1, b2, b3, b4, b5, b6, b7, b8, b9, b10, b11, b12, b13, b14, b15, b16, b17, b18, .l j0, b20, b21]) ∧ get 4 env' = some (.bx [b0, b1, b2, b3, b4, b5, b6, b7, b8, b9, b10, b11, b12, b13, b14, b15, b16, b17, b18, .l js, b20, b21]) ∧ get 5 env' = some (.bx [.i .i64 0]) := by
  refine ⟨_, (by
    simp [execD, dc11, dck, d2, d4, d6, d7, d9, d11, d12, h24, h25, h26, h27, h28, z10, z22, cb0, cb1, cb2, cb3, cb4, cb5, cb6, cb7, cb8, cb9, cb10, cb11, cb12, cb13, cb14, cb15, cb16, cb17, cb18, cb20, cb21]
    rfl), by rfl, by rfl, by rfl⟩
theorem run23 (hjs : js.length = j0.length + 1) (hm : j0.length ≤ 4096) : bodyV o code23 [.r [.i .i64 0], .r [b0, b1, b2, b3, b4, b5, b6, b7, b8, b9, b10, b11, b12, b13, b14, b15, b16, b17, b18, .l js, b20, b21], .r [b0, b1, b2, b3, b4, b5, b6, b7, b8, b9, b10, b11, b12, b13, b14, b15, b16, b17, b18, .l j0, b20, b21]] = some (.t []) := by
  rw [bodyV_eq _ _ _ rfl rfl]
  have hw := wrap_i64 ((j0.length : Int) + 1) (by omega)
  simp [code23, args0, hjs, hw]
end
end Go.Proofs.YtdlpbedneamebaaGreatDoor
namespace Go.Proofs.YtdlpbedneamebaaGreatDoor
open Go.VM Go.RowKit
abbrev cellsJ (b : Books) (js : List V) : List V := [.l (encL Currency.v b.currencies), .l (encL Calendar.v b.calendars), .l (encL Gl.v b.chart), .i .i64 b.plan.cash, .i .i64 b.plan.deposits, .i .i64 b.plan.interestPaid, .i .i64 b.plan.interestEarned, .i .i64 b.plan.feeEarned, .i .i64 b.plan.tax, .i .i64 b.plan.clearing, .i .i64 b.plan.loans, .i .i64 b.plan.loanInterest, .i .i64 b.plan.penalty, .i .i64 b.plan.provision, .i .i64 b.plan.provisionCost, .i .i64 b.plan.loss, .i .i64 b.plan.recovery, .l (encL Product.v b.products), .l (encL Account.v b.accounts), .l js, .l (encL Hold.v b.holds), .l (encL Block.v b.blocks)]
section
variable {o : Orc}
set_option maxRecDepth 100000 in
theorem post_PF (ho : SoundO Tryz.prog o) (b : Books) (e : Entry) (js : List V) (h24 : o 24 [e.v] = some (.i .i64 0)) (h25 : o 25 [.l (encL Entry.v b.journal), .s e.key] = some (.t [.a z10, .b false])) (h26 : o 26 [b.v, e.v] = some (.i .i64 0)) (h27 : o 27 [b.v, e.v] = some (.i .i64 0))
    (h28 : o 28 [.l (encL Entry.v b.journal), e.v] = some (.t [.ow 59 js, .i .i64 0])) (hjs : js.length = b.journal.length + 1) (hm : b.journal.length ≤ 4096) : PF Tryz.prog 11 [b.v, e.v] (.t [.a (cellsJ b js), .i .i64 0]) := by
  intro S w vs hS hG hr
  refine calls_of_wp_defers Tryz.func11 body11 ?_
  have hF := FI.start (P := Tryz.prog) (nt := Tryz.f11.ntmps) (keep := List.range 42) hS hG hr rfl (by rw [nt11]; show 2 ≤ 42; decide) (fun n hn => List.mem_range.2 (Nat.lt_trans hn (show 2 < 42 by decide))) (by rw [nt11]; simp [hr.1])
  refine wp_seq (regS_sound ho toSts0 (env' := [(0, b.v), (1, e.v), (2, .bx b.cells), (3, .bx e.cells), (4, .bx z22), (5, .bx [.i .i64 0])]) (by kernel_rfl) (by rw [nt11]; kernel_rfl) hF fun a1 w1 hF1 => ?_)
  rw [keep0, nt11] at hF1
  refine wp_seq (reg_defer reg1_eq (f := 23) (d := 8) (cs := #[.tmp 5, .tmp 4, .tmp 2]) (by kernel_rfl) (by kernel_rfl) (by kernel_rfl) (by kernel_rfl) (by kernel_rfl) (by kernel_rfl) (by rw [hF1.size]; decide) ?_)
  generalize hu8 : Value.func (.func 23) #[] ((#[.tmp 5, .tmp 4, .tmp 2] : Array Operand).map a1.eval) = u8
  generalize ha2 : ({ a1.put (some 8) u8 with defers := { target := .fn (.func 23) ((#[.tmp 5, .tmp 4, .tmp 2] : Array Operand).map a1.eval), args := #[] } :: a1.defers } : Act) = a2
  have hsz1 : a1.tmps.size = 42 := hF1.size
  have htm : ∀ n, n ≠ 8 → tm a2 n = tm a1 n := fun n hn => by
    rw [← ha2]
    unfold tm Act.put
    simp only [Array.getElem?_setIfInBounds]
    rw [if_neg (fun e => hn e.symm)]
  have hdf : a2.defers = [{ target := .fn (.func 23) ((#[.tmp 5, .tmp 4, .tmp 2] : Array Operand).map a1.eval), args := #[] }] := by rw [← ha2]; simp [hF1.defers]
  have hF2 : FI Tryz.prog 42 (List.range 42) S w.heap.size w [(0, b.v), (1, e.v), (2, .bx b.cells), (3, .bx e.cells), (4, .bx z22), (5, .bx [.i .i64 0]), (8, .ud)] (a1.put (some 8) u8) w1 := hF1.putO_ud (d := some 8) (fun n h => by cases h; exact ⟨by decide, by decide⟩)
  have hD : FD Tryz.prog 42 S w.heap.size w [2, 4, 5] a2 [(0, b.v), (1, e.v), (2, .bx b.cells), (3, .bx e.cells), (4, .bx z22), (5, .bx [.i .i64 0]), (8, .ud)] a2 w1 := by
    refine ⟨?_, rfl, fun _ _ => rfl⟩
    have : ({ a2 with defers := [] } : Act) = a1.put (some 8) u8 := by
      have h1 := hF2.defers
      rw [← ha2]
      generalize a1.put (some 8) u8 = z at h1
      cases z
      simp only at h1
      rw [h1]
    rw [this]; exact hF2
  obtain ⟨env', hx, g2, g4, g5⟩ := run11 (o := o) rfl rfl rfl rfl rfl rfl rfl rfl rfl rfl rfl rfl rfl rfl rfl rfl rfl rfl rfl rfl rfl h24 h25 h26 h27 h28 b.v e.v
  show rest11.wp Tryz.prog _ a2 w1
  refine execD_sound ho rest11 dc11 comp11 _ .r env' hx a2 w1 hD _ fun a3 w3 hF3 => ?_
  show Leaves Tryz.prog Tryz.f11 a3.tmps _ a3.defers .returning w3
  rw [hF3.df, hdf]
  obtain ⟨Im, hI1, hI2, hE⟩ := hF3.fi.ents
  have hIm : ∀ b, Im b → b < w3.heap.size := fun b h => (hI2 b h).2
  obtain ⟨p2, t2, r2⟩ := box_reps hE hIm g2
  obtain ⟨p4, t4, r4⟩ := box_reps hE hIm g4
  obtain ⟨p5, t5, r5⟩ := box_reps hE hIm g5
  have ev : ∀ n p, n ∈ [2, 4, 5] → tm { a3 with defers := [] } n = some p → a1.eval (.tmp n) = p := fun n p hn hp => by
    have h1 : tm a3 n = some p := hp
    rw [hF3.tm n hn, htm n (by rintro rfl; simp at hn)] at h1
    exact eval_tmp h1
  have e2 := ev 2 p2 (by simp) t2
  have e4 := ev 4 p4 (by simp) t4
  have e5 := ev 5 p5 (by simp) t5
  have hcap : (#[.tmp 5, .tmp 4, .tmp 2] : Array Operand).map a1.eval = #[p5, p4, p2] := by simp [e2, e4, e5]
  rw [hcap]
  have hok : okFn Tryz.prog 23 = true := by kernel_rfl
  refine leaves_cons (f := 23) (args := #[p5, p4, p2]) (by simp) (by simp [invoke, callFunc_run hok]) ?_
  have hargs : Reps (All w3) w3 [p5, p4, p2] [.r [.i .i64 0], .r (cellsJ b js), .r b.cells] := by
    refine ⟨rfl, fun j u x hu hx => ?_⟩
    match j, hu, hx with
    | 0, hu, hx => cases hu; cases hx; exact r5
    | 1, hu, hx => cases hu; cases hx; exact r4
    | 2, hu, hx => cases hu; cases hx; exact r2
    | j + 3, hu, _ => simp at hu
  refine (bodyD_sound ho Tryz.func23 comp23 (run23 (o := o) (js := js) (j0 := encL Entry.v b.journal) (by simpa using hjs) (by simpa using hm)) (fun _ h => h) (hE.glob.move hIm fun _ _ => rfl) hargs .returning).mono ?_
  rintro ex u' w4 ⟨rfl, v, rfl, hb4⟩
  show Leaves Tryz.prog Tryz.f11 a3.tmps _ [] .returning w4
  have hF4 := hF3.fi.grow hb4
  obtain ⟨_, v', hv', v'', he'', hb'', S', hS1, hS2, hres⟩ := ret_sound (P := Tryz.prog) (fn := Tryz.f11) res11 hF4 (y := .t [.a (cellsJ b js), .i .i64 0]) (by
    simp [retV, resVs, resV, g4, g5])
  cases he''
  exact ⟨v', hv', v', rfl, hb'', S', hS1, hS2, hres⟩
end
end Go.Proofs.YtdlpbedneamebaaGreatDoor
