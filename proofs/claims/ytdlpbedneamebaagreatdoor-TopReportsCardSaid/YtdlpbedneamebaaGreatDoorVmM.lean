/-
  Equations by which the evaluator is run symbolically. No program is named here.
-/
import Derived.Test.YtdlpbedneamebaaGreatDoorVmA
set_option linter.unusedSectionVars false
namespace Go.VM

theorem rounds_mono (f : Env → Option (Ex × Env)) : ∀ (n : Nat) (env : Env) r, rounds f n env = some r → ∀ m, n ≤ m → rounds f m env = some r
  | 0, _, _, h, _, _ => by simp [rounds] at h
  | n + 1, env, r, h, m, hm => by
    obtain ⟨m, rfl⟩ : ∃ k, m = k + 1 := ⟨m - 1, by omega⟩
    simp only [rounds] at h ⊢
    cases hf : f env with
    | none => rw [hf] at h; simp at h
    | some p =>
      rw [hf] at h
      obtain ⟨e, env'⟩ := p
      cases e with
      | n => simp only [Option.bind_some] at h ⊢; exact rounds_mono f n env' r h m (by omega)
      | e id => simpa using h
      | r => simpa using h

theorem looped_of {f : Env → Option (Ex × Env)} {n : Nat} {env : Env} {r : Ex × Env} (h : rounds f n env = some r) : looped f env = some r := by
  have hx : ∃ n, (rounds f n env).isSome = true := ⟨n, by simp [h]⟩
  unfold looped
  rw [dif_pos hx]
  have hc := Classical.choose_spec hx
  cases hr : rounds f (Classical.choose hx) env with
  | none => rw [hr] at hc; simp at hc
  | some r' =>
    have h1 := rounds_mono f _ env r h (max n (Classical.choose hx)) (Nat.le_max_left _ _)
    have h2 := rounds_mono f _ env r' hr (max n (Classical.choose hx)) (Nat.le_max_right _ _)
    rw [h1] at h2
    exact h2.symm

theorem looped_eq (f : Env → Option (Ex × Env)) (env : Env) : looped f env = (f env).bind fun p => match p.1 with
    | .n => looped f p.2
    | e => some (e, p.2) := by
  cases hf : f env with
  | none =>
    unfold looped
    rw [dif_neg]
    · rfl
    · rintro ⟨n, hn⟩
      cases n with
      | zero => simp [rounds] at hn
      | succ n => simp [rounds, hf] at hn
  | some p =>
    obtain ⟨e, env'⟩ := p
    have hex : ∀ e', e' ≠ Ex.n → e = e' → looped f env = some (e, env') := by
      intro e' he' he
      refine looped_of (n := 1) ?_
      simp only [rounds, hf, Option.bind_some]
      cases e <;> simp_all
    cases e with
    | n =>
      simp only [Option.bind_some]
      by_cases h : ∃ n, (rounds f n env').isSome = true
      · obtain ⟨n, hn⟩ := h
        cases hr : rounds f n env' with
        | none => rw [hr] at hn; simp at hn
        | some r =>
          rw [looped_of hr]
          refine looped_of (n := n + 1) ?_
          simp [rounds, hf, hr]
      · have h' : ¬ ∃ n, (rounds f n env).isSome = true := by
          rintro ⟨n, hn⟩
          cases n with
          | zero => simp [rounds] at hn
          | succ n => exact h ⟨n, by simpa [rounds, hf] using hn⟩
        unfold looped
        rw [dif_neg h, dif_neg h']
    | e id => simpa using hex (.e id) (by simp) rfl
    | r => simpa using hex .r (by simp) rfl


/-! ### Control -/
noncomputable def seqE (o : Orc) (b : C) (r : Option (Ex × Env)) : Option (Ex × Env) := r.bind fun p => match p.1 with
  | .n => exec o b p.2
  | e => some (e, p.2)
noncomputable def condE (o : Orc) (a b : C) (env : Env) (r : Option V) : Option (Ex × Env) := r.bind fun v => match v with
  | .b t => if t then exec o a env else exec o b env
  | _ => none
def blkE (id : Nat) (r : Option (Ex × Env)) : Option (Ex × Env) := r.bind fun p => match p.1 with
  | .e j => if j = id then some (.n, p.2) else some (.e j, p.2)
  | e => some (e, p.2)
noncomputable def loopC (o : Orc) (kin : List Nat) (c : C) (env : Env) : Option (Ex × Env) := looped (fun e => exec o c (keepE kin e)) env
noncomputable def roundE (o : Orc) (kin : List Nat) (c : C) (r : Option (Ex × Env)) : Option (Ex × Env) := r.bind fun p => match p.1 with
  | .n => loopC o kin c p.2
  | e => some (e, p.2)
section
variable (o : Orc) (env : Env)
@[simp] theorem exec_skip : exec o .skip env = some (.n, env) := by simp [exec]
@[simp] theorem exec_seq (a b : C) : exec o (.seq a b) env = seqE o b (exec o a env) := by
  simp only [exec, seqE]; cases exec o a env with
  | none => rfl
  | some p => obtain ⟨e, env'⟩ := p; cases e <;> rfl
@[simp] theorem exec_q (rs : List (Nat × X)) : exec o (.q rs) env = (putsQ o env rs env).map fun e => (.n, e) := by
  simp only [exec]; cases putsQ o env rs env <;> rfl
@[simp] theorem exec_s (ss : List St) (ks : List Nat) : exec o (.s ss ks) env = (stepsS o ss env).map fun e => (.n, dropE ks e) := by
  simp only [exec]; cases stepsS o ss env <;> rfl
@[simp] theorem exec_d (ss : List St) (af : List (List Nat)) (ks : List Nat) : exec o (.d ss af ks) env = (drawS o ss af env).map fun e => (.n, dropE ks e) := by
  simp only [exec]; cases drawS o ss af env <;> rfl
@[simp] theorem exec_dg (ss : List GSt) (af : List (List Nat)) (ks : List Nat) : exec o (.dg ss af ks) env = (drawG o ss af env).map fun e => (.n, dropE ks e) := by
  simp only [exec]; cases drawG o ss af env <;> rfl
@[simp] theorem exec_g (ss : List GSt) (ks : List Nat) : exec o (.g ss ks) env = (stepsG o ss env).map fun e => (.n, dropE ks e) := by
  simp only [exec]; cases stepsG o ss env <;> rfl
@[simp] theorem exec_cond (x : X) (a b : C) : exec o (.cond x a b) env = condE o a b env (evalX o env x) := by
  simp only [exec, condE]; cases evalX o env x with
  | none => rfl
  | some v => cases v <;> rfl
@[simp] theorem exec_blk (id : Nat) (c : C) : exec o (.blk id c) env = blkE id (exec o c env) := by
  simp only [exec, blkE]; cases exec o c env with
  | none => rfl
  | some p => obtain ⟨e, env'⟩ := p; cases e <;> rfl
theorem exec_loop (kin : List Nat) (c : C) : exec o (.loop kin c) env = loopC o kin c env := by simp only [exec, loopC]
@[simp] theorem exec_exit (id : Nat) (ks : List Nat) : exec o (.exit id ks) env = some (.e id, keepE ks env) := by simp only [exec]
@[simp] theorem exec_ret (ks : List Nat) : exec o (.ret ks) env = some (.r, keepE ks env) := by simp only [exec]
@[simp] theorem seqE_n (b : C) : seqE o b (some (.n, env)) = exec o b env := rfl
@[simp] theorem seqE_e (b : C) (id : Nat) : seqE o b (some (.e id, env)) = some (.e id, env) := rfl
@[simp] theorem seqE_r (b : C) : seqE o b (some (.r, env)) = some (.r, env) := rfl
@[simp] theorem seqE_none (b : C) : seqE o b none = none := rfl
@[simp] theorem seqE_ite (b : C) (c : Prop) [Decidable c] (x y : Option (Ex × Env)) : seqE o b (if c then x else y) = if c then seqE o b x else seqE o b y := by split <;> rfl
@[simp] theorem condE_b (a b : C) (t : Bool) : condE o a b env (some (.b t)) = if t = true then exec o a env else exec o b env := rfl
@[simp] theorem condE_ite (a b : C) (c : Prop) [Decidable c] (x y : Option V) : condE o a b env (if c then x else y) = if c then condE o a b env x else condE o a b env y := by split <;> rfl
@[simp] theorem blkE_n (id : Nat) : blkE id (some (.n, env)) = some (.n, env) := rfl
@[simp] theorem blkE_e (id j : Nat) : blkE id (some (.e j, env)) = if j = id then some (.n, env) else some (.e j, env) := rfl
@[simp] theorem blkE_r (id : Nat) : blkE id (some (.r, env)) = some (.r, env) := rfl
@[simp] theorem blkE_ite (id : Nat) (c : Prop) [Decidable c] (x y : Option (Ex × Env)) : blkE id (if c then x else y) = if c then blkE id x else blkE id y := by split <;> rfl
theorem loopC_eq (kin : List Nat) (c : C) : loopC o kin c env = roundE o kin c (exec o c (keepE kin env)) := by
  unfold loopC roundE; rw [looped_eq]; rfl
@[simp] theorem roundE_n (kin : List Nat) (c : C) : roundE o kin c (some (.n, env)) = loopC o kin c env := rfl
@[simp] theorem roundE_e (kin : List Nat) (c : C) (id : Nat) : roundE o kin c (some (.e id, env)) = some (.e id, env) := rfl
@[simp] theorem roundE_r (kin : List Nat) (c : C) : roundE o kin c (some (.r, env)) = some (.r, env) := rfl
@[simp] theorem roundE_ite (kin : List Nat) (b : C) (c : Prop) [Decidable c] (x y : Option (Ex × Env)) : roundE o kin b (if c then x else y) = if c then roundE o kin b x else roundE o kin b y := by split <;> rfl
end

/-! ### Slots -/
@[simp] theorem get_nil (n : Nat) : get n [] = none := rfl
@[simp] theorem get_cons (n m : Nat) (x : V) (env : Env) : get n ((m, x) :: env) = if n = m then some x else get n env := rfl
@[simp] theorem put_nil (n : Nat) (x : V) : put n x [] = [(n, x)] := rfl
@[simp] theorem put_cons (n m : Nat) (x y : V) (env : Env) : put n x ((m, y) :: env) = if n < m then (n, x) :: (m, y) :: env else if n = m then (n, x) :: env else (m, y) :: put n x env := rfl
def putE (n : Nat) (x : V) (env : Env) : Option V → Env
  | none => put n x env
  | some _ => put n x (purge n env)
@[simp] theorem put'_eq (n : Nat) (x : V) (env : Env) : put' n x env = putE n x env (get n env) := by unfold put' putE; cases get n env <;> rfl
@[simp] theorem putE_none (n : Nat) (x : V) (env : Env) : putE n x env none = put n x env := rfl
@[simp] theorem putE_some (n : Nat) (x y : V) (env : Env) : putE n x env (some y) = put n x (purge n env) := rfl
@[simp] theorem purge_nil (n : Nat) : purge n [] = [] := rfl
@[simp] theorem purge_cons (n m : Nat) (x : V) (env : Env) : purge n ((m, x) :: env) = if x.names = some n then purge n env else (m, x) :: purge n env := by
  simp only [purge, List.filter_cons, bne_iff_ne, ne_eq]; by_cases h : x.names = some n <;> simp [h]
@[simp] theorem del_nil (n : Nat) : del n [] = [] := rfl
@[simp] theorem del_cons (n m : Nat) (x : V) (env : Env) : del n ((m, x) :: env) = if m = n then del n env else (m, x) :: del n env := by
  simp only [del, List.filter_cons, bne_iff_ne, ne_eq]; by_cases h : m = n <;> simp [h]
def inK (ks : List Nat) : Option Nat → Bool
  | none => true
  | some m => ks.contains m
@[simp] theorem inK_none (ks : List Nat) : inK ks none = true := rfl
@[simp] theorem inK_some (ks : List Nat) (m : Nat) : inK ks (some m) = ks.contains m := rfl
@[simp] theorem keepE_nil (ks : List Nat) : keepE ks [] = [] := rfl
@[simp] theorem keepE_cons (ks : List Nat) (m : Nat) (x : V) (env : Env) : keepE ks ((m, x) :: env) = if (ks.contains m && inK ks x.names) = true then (m, x) :: keepE ks env else keepE ks env := by
  simp only [keepE, List.filter_cons]; cases h : x.names <;> simp [inK]
def outK (ks : List Nat) : Option Nat → Bool
  | none => true
  | some m => !ks.contains m
@[simp] theorem outK_none (ks : List Nat) : outK ks none = true := rfl
@[simp] theorem outK_some (ks : List Nat) (m : Nat) : outK ks (some m) = !ks.contains m := rfl
@[simp] theorem dropE_nil (ks : List Nat) : dropE ks [] = [] := rfl
@[simp] theorem dropE_nils (env : Env) : dropE [] env = env := by
  induction env with
  | nil => rfl
  | cons p r ih => unfold dropE at ih ⊢; rw [List.filter_cons, ih]; cases p.2.names <;> simp
@[simp] theorem dropE_cons (ks : List Nat) (m : Nat) (x : V) (env : Env) : dropE ks ((m, x) :: env) = if (!ks.contains m && outK ks x.names) = true then (m, x) :: dropE ks env else dropE ks env := by
  simp only [dropE, List.filter_cons]; cases h : x.names <;> simp [outK]

section
variable (x : Bool) (k : IntKind) (n i off sz : Nat) (m : Int) (s : List UInt8) (es : List V) (fn : Fn)
@[simp] theorem names_b : (V.b x).names = none := rfl
@[simp] theorem names_i : (V.i k m).names = none := rfl
@[simp] theorem names_s : (V.s s).names = none := rfl
@[simp] theorem names_l : (V.l es).names = none := rfl
@[simp] theorem names_ow : (V.ow n es).names = none := rfl
@[simp] theorem names_r : (V.r es).names = none := rfl
@[simp] theorem names_bx : (V.bx es).names = none := rfl
@[simp] theorem names_a : (V.a es).names = none := rfl
@[simp] theorem names_t : (V.t es).names = none := rfl
@[simp] theorem names_f (cs : List V) : (V.f fn es cs).names = none := rfl
@[simp] theorem names_nf : V.nf.names = none := rfl
@[simp] theorem names_np : V.np.names = none := rfl
@[simp] theorem names_ud : V.ud.names = none := rfl
@[simp] theorem names_al : (V.al n).names = some n := rfl
@[simp] theorem names_pe : (V.pe n i off sz).names = some n := rfl
@[simp] theorem names_pb : (V.pb n off sz).names = some n := rfl
@[simp] theorem frz_b : frz (.b x) = .b x := rfl
@[simp] theorem frz_i : frz (.i k m) = .i k m := rfl
@[simp] theorem frz_s : frz (.s s) = .s s := rfl
@[simp] theorem frz_l : frz (.l es) = .l es := rfl
@[simp] theorem frz_ow : frz (.ow n es) = .l es := rfl
@[simp] theorem frz_r : frz (.r es) = .r es := rfl
@[simp] theorem frz_bx : frz (.bx es) = .r es := rfl
@[simp] theorem frz_a : frz (.a es) = .a es := rfl
@[simp] theorem frz_t : frz (.t es) = .t es := rfl
@[simp] theorem frz_f (cs : List V) : frz (.f fn es cs) = .f fn es cs := rfl
@[simp] theorem frz_nf : frz .nf = .nf := rfl
@[simp] theorem frz_np : frz .np = .np := rfl
@[simp] theorem frzt_b : frzt (.b x) = .b x := rfl
@[simp] theorem frzt_i : frzt (.i k m) = .i k m := rfl
@[simp] theorem frzt_s : frzt (.s s) = .s s := rfl
@[simp] theorem frzt_l : frzt (.l es) = .l es := rfl
@[simp] theorem frzt_ow : frzt (.ow n es) = .l es := rfl
@[simp] theorem frzt_r : frzt (.r es) = .r es := rfl
@[simp] theorem frzt_bx : frzt (.bx es) = .r es := rfl
@[simp] theorem frzt_a : frzt (.a es) = .a es := rfl
@[simp] theorem frzt_t : frzt (.t es) = .t (es.map frz) := rfl
@[simp] theorem frzt_f (cs : List V) : frzt (.f fn es cs) = .f fn es cs := rfl
@[simp] theorem own_b : (V.b x).isOwn = false := rfl
@[simp] theorem own_i : (V.i k m).isOwn = false := rfl
@[simp] theorem own_s : (V.s s).isOwn = false := rfl
@[simp] theorem own_l : (V.l es).isOwn = false := rfl
@[simp] theorem own_ow : (V.ow n es).isOwn = true := rfl
@[simp] theorem own_r : (V.r es).isOwn = false := rfl
@[simp] theorem own_bx : (V.bx es).isOwn = true := rfl
@[simp] theorem own_a : (V.a es).isOwn = false := rfl
@[simp] theorem own_t : (V.t es).isOwn = false := rfl
@[simp] theorem own_f (cs : List V) : (V.f fn es cs).isOwn = false := rfl
@[simp] theorem own_nf : V.nf.isOwn = false := rfl
@[simp] theorem own_np : V.np.isOwn = false := rfl
@[simp] theorem own_ud : V.ud.isOwn = false := rfl
@[simp] theorem own_al : (V.al n).isOwn = false := rfl
@[simp] theorem own_pe : (V.pe n i off sz).isOwn = false := rfl
@[simp] theorem own_pb : (V.pb n off sz).isOwn = false := rfl
@[simp] theorem flat1_b : (V.b x).flat1 = true := by simp [V.flat1, V.flat]
@[simp] theorem flat1_i : (V.i k m).flat1 = true := by simp [V.flat1, V.flat]
@[simp] theorem flat1_s : (V.s s).flat1 = true := by simp [V.flat1, V.flat]
@[simp] theorem uniq_b : (V.b x).uniq = true := by simp [V.uniq]
@[simp] theorem uniq_i : (V.i k m).uniq = true := by simp [V.uniq]
@[simp] theorem uniq_s : (V.s s).uniq = true := by simp [V.uniq]
@[simp] theorem uniq_t : (V.t es).uniq = V.uniqs es := by simp [V.uniq]
@[simp] theorem uniqs_nil : V.uniqs [] = true := by simp [V.uniqs]
@[simp] theorem uniqs_cons (v : V) : V.uniqs (v :: es) = (v.uniq && V.uniqs es) := by simp [V.uniqs]
@[simp] theorem cells_a : (V.a es).cells = es := rfl
@[simp] theorem cells_b : (V.b x).cells = [.b x] := rfl
@[simp] theorem cells_i : (V.i k m).cells = [.i k m] := rfl
@[simp] theorem cells_s : (V.s s).cells = [.s s] := rfl
@[simp] theorem cells_l : (V.l es).cells = [.l es] := rfl
end

def lookE (env : Env) : Option V → Option V
  | some (.al m) => (get m env).bind rd
  | some (.pe m i off sz) => match (get m env).bind rd with
    | some (.l es) => (es[i]?).bind fun e => (sub e.cells off sz).map .r
    | _ => none
  | some (.pb m off sz) => match (get m env).bind rd with
    | some (.r cs) => (sub cs off sz).map .r
    | _ => none
  | some x => rd x
  | none => none
def lookPe (i off sz : Nat) : Option V → Option V
  | some (.l es) => (es[i]?).bind fun e => (sub e.cells off sz).map .r
  | _ => none
def lookPb (off sz : Nat) : Option V → Option V
  | some (.r cs) => (sub cs off sz).map .r
  | _ => none
section
variable (env : Env) (x : Bool) (k : IntKind) (n m i off sz : Nat) (j : Int) (s : List UInt8) (es : List V) (fn : Fn)
@[simp] theorem look_eq : look env n = lookE env (get n env) := by unfold look lookE; rfl
@[simp] theorem lookE_al : lookE env (some (.al m)) = (get m env).bind rd := rfl
@[simp] theorem lookE_pe : lookE env (some (.pe m i off sz)) = lookPe i off sz ((get m env).bind rd) := rfl
@[simp] theorem lookE_pb : lookE env (some (.pb m off sz)) = lookPb off sz ((get m env).bind rd) := rfl
@[simp] theorem lookPe_l : lookPe i off sz (some (.l es)) = (es[i]?).bind fun e => (sub e.cells off sz).map .r := rfl
@[simp] theorem lookPb_r : lookPb off sz (some (.r es)) = (sub es off sz).map .r := rfl
@[simp] theorem lookE_b : lookE env (some (.b x)) = some (.b x) := rfl
@[simp] theorem lookE_i : lookE env (some (.i k j)) = some (.i k j) := rfl
@[simp] theorem lookE_s : lookE env (some (.s s)) = some (.s s) := rfl
@[simp] theorem lookE_l : lookE env (some (.l es)) = some (.l es) := rfl
@[simp] theorem lookE_ow : lookE env (some (.ow n es)) = some (.l es) := rfl
@[simp] theorem lookE_r : lookE env (some (.r es)) = some (.r es) := rfl
@[simp] theorem lookE_bx : lookE env (some (.bx es)) = some (.r es) := rfl
@[simp] theorem lookE_a : lookE env (some (.a es)) = some (.a es) := rfl
@[simp] theorem lookE_f (cs : List V) : lookE env (some (.f fn es cs)) = some (.f fn es cs) := rfl
@[simp] theorem lookE_nf : lookE env (some .nf) = some .nf := rfl
@[simp] theorem lookE_np : lookE env (some .np) = some .np := rfl
@[simp] theorem lookE_um : lookE env (some .um) = some .um := rfl
@[simp] theorem lookE_mp (ks : List V) : lookE env (some (.mp ks es)) = some .um := rfl
@[simp] theorem rd_um : rd .um = some .um := rfl
@[simp] theorem rd_mp (ks : List V) : rd (.mp ks es) = some .um := rfl
@[simp] theorem rd_b : rd (.b x) = some (.b x) := rfl
@[simp] theorem rd_i : rd (.i k j) = some (.i k j) := rfl
@[simp] theorem rd_s : rd (.s s) = some (.s s) := rfl
@[simp] theorem rd_l : rd (.l es) = some (.l es) := rfl
@[simp] theorem rd_ow : rd (.ow n es) = some (.l es) := rfl
@[simp] theorem rd_r : rd (.r es) = some (.r es) := rfl
@[simp] theorem rd_bx : rd (.bx es) = some (.r es) := rfl
@[simp] theorem rd_a : rd (.a es) = some (.a es) := rfl
@[simp] theorem rd_f (cs : List V) : rd (.f fn es cs) = some (.f fn es cs) := rfl
@[simp] theorem rd_nf : rd .nf = some .nf := rfl
@[simp] theorem rd_np : rd .np = some .np := rfl
end

/-! ### Expressions -/
def iteE (a b : Option V) : Option V → Option V
  | some (.b t) => if t then a else b
  | _ => none
section
variable (o : Orc) (env : Env)
@[simp] theorem evalX_sl (n : Nat) : evalX o env (.sl n) = look env n := by simp only [evalX]
@[simp] theorem evalX_k (v : V) : evalX o env (.k v) = some v := by simp only [evalX]
@[simp] theorem evalX_ite (c a b : X) : evalX o env (.ite c a b) = iteE (evalX o env a) (evalX o env b) (evalX o env c) := by
  simp only [evalX]; unfold iteE; cases evalX o env c with
  | none => rfl
  | some v => cases v <;> rfl
@[simp] theorem evalX_op (p : XOp) (xs : List X) : evalX o env (.op p xs) = (evalXs o env xs).bind (opQ o p) := by simp only [evalX]
@[simp] theorem evalXs_nil : evalXs o env [] = some [] := by simp only [evalXs]
@[simp] theorem evalXs_cons (x : X) (xs : List X) : evalXs o env (x :: xs) = (evalX o env x).bind fun v => (evalXs o env xs).map fun vs => v :: vs := by
  simp only [evalXs]; cases evalX o env x with
  | none => rfl
  | some v => cases evalXs o env xs <;> rfl
@[simp] theorem iteE_b (a b : Option V) (t : Bool) : iteE a b (some (.b t)) = if t = true then a else b := rfl
@[simp] theorem putsQ_nil (acc : Env) : putsQ o env [] acc = some acc := rfl
@[simp] theorem putsQ_cons (d : Nat) (x : X) (rs : List (Nat × X)) (acc : Env) : putsQ o env ((d, x) :: rs) acc = (evalX o env x).bind fun v => if v.flat1 = true then putsQ o env rs (put' d v acc) else none := rfl
@[simp] theorem ite_bind {α β : Type} (c : Prop) [Decidable c] (x y : Option α) (f : α → Option β) : (if c then x else y).bind f = if c then x.bind f else y.bind f := by split <;> rfl
@[simp] theorem ite_map {α β : Type} (c : Prop) [Decidable c] (x y : Option α) (f : α → β) : (if c then x else y).map f = if c then x.map f else y.map f := by split <;> rfl
end
@[simp] theorem ite_vb (c : Bool) (x y : Bool) : (if c = true then some (V.b x) else some (V.b y)) = some (V.b (if c = true then x else y)) := by cases c <;> rfl
@[simp] theorem ite_vi (c : Prop) [Decidable c] (k : IntKind) (x y : Int) : (if c then some (V.i k x) else some (V.i k y)) = some (V.i k (if c then x else y)) := by split <;> rfl
@[simp] theorem ite_vd (c : Prop) [Decidable c] (x y : Bool) : (if c then some (V.b x) else some (V.b y)) = some (V.b (if c then x else y)) := by split <;> rfl
@[simp] theorem ite_b_false (c x : Bool) : (if c = true then x else false) = (c && x) := by cases c <;> rfl
@[simp] theorem ite_b_true (c x : Bool) : (if c = true then true else x) = (c || x) := by cases c <;> rfl

section
variable (o : Orc) (k : IntKind) (a b : Int) (x y : List UInt8) (es : List V) (n off : Nat) (ag t u : Bool)
@[simp] theorem opQ_add : opQ o (.bin .add) [.i k a, .i k b] = some (.i k (k.wrap (a + b))) := by simp [opQ, binV, intV]
@[simp] theorem opQ_sub : opQ o (.bin .sub) [.i k a, .i k b] = some (.i k (k.wrap (a - b))) := by simp [opQ, binV, intV]
@[simp] theorem opQ_mul : opQ o (.bin .mul) [.i k a, .i k b] = some (.i k (k.wrap (a * b))) := by simp [opQ, binV, intV]
@[simp] theorem opQ_quo : opQ o (.bin .quo) [.i k a, .i k b] = if b = 0 then none else some (.i k (k.wrap (a.tdiv b))) := by simp [opQ, binV, intV]
@[simp] theorem opQ_rem : opQ o (.bin .rem) [.i k a, .i k b] = if b = 0 then none else some (.i k (a.tmod b)) := by simp [opQ, binV, intV]
@[simp] theorem opQ_xor : opQ o (.bin .xor) [.i k a, .i k b] = some (.i k (bitsV .xor k a b)) := by simp [opQ, binV, intV]
@[simp] theorem opQ_eql : opQ o (.bin .eql) [.i k a, .i k b] = some (.b (decide (a = b))) := by simp [opQ, binV, intV]
@[simp] theorem opQ_neq : opQ o (.bin .neq) [.i k a, .i k b] = some (.b (!decide (a = b))) := by simp [opQ, binV, intV]
@[simp] theorem opQ_lss : opQ o (.bin .lss) [.i k a, .i k b] = some (.b (decide (a < b))) := by simp [opQ, binV, intV]
@[simp] theorem opQ_leq : opQ o (.bin .leq) [.i k a, .i k b] = some (.b (decide (a ≤ b))) := by simp [opQ, binV, intV]
@[simp] theorem opQ_gtr : opQ o (.bin .gtr) [.i k a, .i k b] = some (.b (decide (b < a))) := by simp [opQ, binV, intV]
@[simp] theorem opQ_geq : opQ o (.bin .geq) [.i k a, .i k b] = some (.b (decide (b ≤ a))) := by simp [opQ, binV, intV]
@[simp] theorem opQ_seql : opQ o (.bin .eql) [.s x, .s y] = some (.b (decide (x = y))) := by simp [opQ, binV, strV]
@[simp] theorem opQ_sneq : opQ o (.bin .neq) [.s x, .s y] = some (.b (!decide (x = y))) := by simp [opQ, binV, strV]
@[simp] theorem opQ_slss : opQ o (.bin .lss) [.s x, .s y] = some (.b (Op.bytesLess x y)) := by simp [opQ, binV, strV]
@[simp] theorem opQ_sleq : opQ o (.bin .leq) [.s x, .s y] = some (.b (Op.bytesLess x y || decide (x = y))) := by simp [opQ, binV, strV]
@[simp] theorem opQ_sadd : opQ o (.bin .add) [.s x, .s y] = if x.length + y.length ≤ 9223372036854775807 then some (.s (x ++ y)) else none := by simp [opQ, binV, strV]
@[simp] theorem opQ_not : opQ o (.un .not) [.b t] = some (.b (!t)) := by simp [opQ, unV]
@[simp] theorem opQ_unxor : opQ o (.un .xor) [.i k a] = some (.i k (bitsV .xor k (if k.signed then -1 else k.max) a)) := by simp [opQ, unV]
@[simp] theorem opQ_eqa (neg : Bool) (ks : List Nat) (xs ys : List V) : opQ o (.eqa neg ks) [.a xs, .a ys] = (eqCells ks xs ys).map fun r => .b (if neg then !r else r) := rfl
@[simp] theorem opQ_lens : opQ o .slen [.s x] = some (.i .i64 x.length) := rfl
@[simp] theorem opQ_lenl : opQ o .len [.l es] = some (.i .i64 es.length) := rfl
@[simp] theorem opQ_fld : opQ o (.fld off n ag) [.a es] = (sub es off n).bind fun r => if ag = true then some (.a r) else r[0]? := rfl
@[simp] theorem opQ_aix {len m : Nat} : opQ o (.aix len m ag) [.a es, .i k a] = if 0 ≤ a ∧ a < (len : Int) then (sub es (a.toNat * m) m).bind fun r => if ag = true then some (.a r) else r[0]? else none := rfl
@[simp] theorem opQ_pix {len m : Nat} : opQ o (.pix len m) [.r es, .i k a] = if 0 ≤ a ∧ a < (len : Int) then (sub es (a.toNat * m) m).map .r else none := rfl
theorem opQ_idx : opQ o .idx [.s x, .i k a] = if 0 ≤ a then (x[a.toNat]?).map fun c => .i .u8 c.toNat else none := rfl
theorem opQ_ix : opQ o (.ix n) [.l es, .i k a] = if 0 ≤ a then (es[a.toNat]?).bind fun e => if e.cells.length = n then some (.r e.cells) else none else none := rfl
@[simp] theorem opQ_fa : opQ o (.fa off n) [.r es] = (sub es off n).map .r := rfl
@[simp] theorem opQ_ld : opQ o (.ld n ag) [.r es] = if es.length = n then (if ag = true then some (.a es) else es[0]?) else none := rfl
@[simp] theorem opQ_call (fl : Bool) (f : Nat) (args : List V) : opQ o (.call fl f) args = (o f args).bind fun r => if fl = true → r.uniq = true then some (frzt r) else none := rfl
@[simp] theorem opQ_callv (fl : Bool) (args : List V) : opQ o (.callv fl) args = (callV o args).bind fun r => if fl = true → r.uniq = true then some (frzt r) else none := rfl
@[simp] theorem callV_f (f : Nat) (fs cs args : List V) : callV o (.f (.func f) fs cs :: args) = o f (fs ++ args ++ cs) := rfl
@[simp] theorem opQ_cnv (k' : IntKind) : opQ o (.cnv k') [.i k a] = some (.i k' (k'.wrap a)) := rfl
@[simp] theorem opQ_ext (i : Nat) (vs : List V) : opQ o (.ext i) [.t vs] = vs[i]? := rfl
@[simp] theorem opQ_bld (z : List V) (ps : List (Nat × Nat)) (xs : List V) : opQ o (.bld z ps) xs = (bldV z ps xs).map .a := rfl
@[simp] theorem opQ_bsl (kk : Nat) (xs : List V) : opQ o (.bsl kk) xs = if xs.all (fun x => x.cells.length == kk && x.cells.all V.cell) then some (.l xs) else none := rfl
end
attribute [simp] sub bldV splice eqCells
theorem wrap_i64 (n : Int) (h : -9223372036854775808 ≤ n ∧ n ≤ 9223372036854775807) : IntKind.i64.wrap n = n := IntWalk.i64_in n h

/-! ### Results -/
section
variable (env : Env) (x : Bool) (k : IntKind) (n m i off sz : Nat) (j : Int) (s : List UInt8) (es : List V) (fn : Fn) (rs : List RV)
def resA (env : Env) (m : Nat) : V → Option (V × Env)
  | .al _ | .pe .. | .pb .. | .t _ | .ud => none
  | y => some (y, if y.isOwn then put m .ud env else env)
def resE (env : Env) (t : Nat) : Option V → Option (V × Env)
  | some (.al m) => (get m env).bind (resA env m)
  | some (.pe ..) => none
  | some (.pb ..) => none
  | some (.t _) => none
  | some .ud => none
  | some x => some (x, if x.isOwn then put t .ud env else env)
  | none => none
@[simp] theorem resV_tmp (t : Nat) : resV env (.tmp t) = resE env t (get t env) := by
  simp only [resV]; unfold resE; cases h : get t env with
  | none => rfl
  | some v => cases v <;> first
    | rfl
    | (simp only [Option.bind_some]; congr 1; funext y; cases y <;> rfl)
@[simp] theorem resE_al (t : Nat) : resE env t (some (.al m)) = (get m env).bind (resA env m) := rfl
@[simp] theorem resA_b : resA env m (.b x) = some (.b x, env) := rfl
@[simp] theorem resA_i : resA env m (.i k j) = some (.i k j, env) := rfl
@[simp] theorem resA_s : resA env m (.s s) = some (.s s, env) := rfl
@[simp] theorem resA_l : resA env m (.l es) = some (.l es, env) := rfl
@[simp] theorem resA_ow : resA env m (.ow n es) = some (.ow n es, put m .ud env) := rfl
@[simp] theorem resA_a : resA env m (.a es) = some (.a es, env) := rfl
@[simp] theorem resE_b (t : Nat) : resE env t (some (.b x)) = some (.b x, env) := rfl
@[simp] theorem resE_i (t : Nat) : resE env t (some (.i k j)) = some (.i k j, env) := rfl
@[simp] theorem resE_s (t : Nat) : resE env t (some (.s s)) = some (.s s, env) := rfl
@[simp] theorem resE_l (t : Nat) : resE env t (some (.l es)) = some (.l es, env) := rfl
@[simp] theorem resE_ow (t : Nat) : resE env t (some (.ow n es)) = some (.ow n es, put t .ud env) := rfl
@[simp] theorem resE_r (t : Nat) : resE env t (some (.r es)) = some (.r es, env) := rfl
@[simp] theorem resE_bx (t : Nat) : resE env t (some (.bx es)) = some (.bx es, put t .ud env) := rfl
@[simp] theorem resE_a (t : Nat) : resE env t (some (.a es)) = some (.a es, env) := rfl
@[simp] theorem resE_f (t : Nat) (cs : List V) : resE env t (some (.f fn es cs)) = some (.f fn es cs, env) := rfl
@[simp] theorem resV_cell (t : Nat) (ag : Bool) : resV env (.cell t n ag) = (look env t).bind fun x => (opQ (fun _ _ => none) (.ld n ag) [x]).bind fun y => some (y, env) := rfl
@[simp] theorem resVs_nil : resVs [] env = some [] := rfl
@[simp] theorem resVs_cons (r : RV) : resVs (r :: rs) env = (resV env r).bind fun p => (resVs rs p.2).map fun vs => p.1 :: vs := by
  simp only [resVs]; cases resV env r with
  | none => rfl
  | some p => simp only [Option.bind_some]; cases resVs rs p.2 <;> rfl
def retL : List V → V
  | [v] => v
  | vs => .t vs
theorem retV_eq : retV rs env = (resVs rs env).map retL := by unfold retV retL; rfl
@[simp] theorem retL_one (v : V) : retL [v] = v := rfl
@[simp] theorem retL_nil : retL [] = .t [] := rfl
@[simp] theorem retL_two (u v : V) (vs : List V) : retL (u :: v :: vs) = .t (u :: v :: vs) := rfl
def retE (rs : List RV) (r : Option (Ex × Env)) : Option V := r.bind fun p => match p.1 with
  | .e _ => none
  | _ => retV rs p.2
theorem bodyV_eq (o : Orc) (fc : FCode) (args : List V) (h : args.length = fc.np) (ha : args.all V.arg = true) : bodyV o fc args = retE fc.res (exec o fc.body (args0 0 args)) := by
  unfold bodyV retE; rw [if_pos ⟨h, ha⟩]; cases exec o fc.body (args0 0 args) with
  | none => rfl
  | some p => obtain ⟨e, env'⟩ := p; cases e <;> rfl
@[simp] theorem retE_r : retE rs (some (.r, env)) = (resVs rs env).map retL := by rw [← retV_eq]; rfl
@[simp] theorem retE_n : retE rs (some (.n, env)) = (resVs rs env).map retL := by rw [← retV_eq]; rfl
@[simp] theorem retE_ite (c : Prop) [Decidable c] (x y : Option (Ex × Env)) : retE rs (if c then x else y) = if c then retE rs x else retE rs y := by split <;> rfl
@[simp] theorem args0_nil : args0 i [] = [] := rfl
@[simp] theorem args0_cons (v : V) (vs : List V) : args0 i (v :: vs) = (i, v) :: args0 (i + 1) vs := rfl
end
end Go.VM
