/-
  The plain data of the laws arguments: printed by a program of ours off the translation.
-/
import Derived.Test.YthonmlhljdhlbaaCode
import Derived.Test.YthonmlhljdhlbaaVmN
namespace Go.Proofs.Ythonmlhljdhlbaa
open Go.VM
/-- 'Terms'. -/
structure Terms where
  method : Int
  principal : Int
  ppm : Int
  start : Int
  every : Int
  count : Int
  balloon : Int
  mode' : Int
  penaltyPpm : Int
  feePpm : Int
  calendar : List UInt8
  currency : List UInt8
  deriving DecidableEq
abbrev Terms.cells (x : Terms) : List V := [.i .i64 x.method, .i .i64 x.principal, .i .i64 x.ppm, .i .i64 x.start, .i .i64 x.every, .i .i64 x.count, .i .i64 x.balloon, .i .i64 x.mode', .i .i64 x.penaltyPpm, .i .i64 x.feePpm, .s x.calendar, .s x.currency]
abbrev Terms.v (x : Terms) : V := .a ([.i .i64 x.method, .i .i64 x.principal, .i .i64 x.ppm, .i .i64 x.start, .i .i64 x.every, .i .i64 x.count, .i .i64 x.balloon, .i .i64 x.mode', .i .i64 x.penaltyPpm, .i .i64 x.feePpm, .s x.calendar, .s x.currency])
def Terms.ok (x : Terms) : Prop := I64 x.method ∧ I64 x.principal ∧ I64 x.ppm ∧ I64 x.start ∧ I64 x.every ∧ I64 x.count ∧ I64 x.balloon ∧ I64 x.mode' ∧ I64 x.penaltyPpm ∧ I64 x.feePpm ∧ x.calendar.length ≤ maxLen ∧ x.currency.length ≤ maxLen
@[simp] theorem Terms.all_len (l : List Terms) : (encL Terms.v l).all (fun x => x.cells.length == 12) = true := encL_all fun _ => rfl
@[simp] theorem Terms.len_all (l : List Terms) : (∀ x ∈ encL Terms.v l, x.cells.length = 12) = True := encL_len fun _ => rfl
theorem fitT28 {n : Nat} {ys : List V} (h : Fit Try.prog (n + 2) 28 ys) : ∃ x : Terms, ys = x.cells ∧ x.ok := by
  unfold Fit at h
  rw [Try.underlying28] at h
  simp only [List.foldr_cons, List.foldr_nil] at h
  obtain ⟨a0, b0, rfl, h0, a1, b1, rfl, h1, a2, b2, rfl, h2, a3, b3, rfl, h3, a4, b4, rfl, h4, a5, b5, rfl, h5, a6, b6, rfl, h6, a7, b7, rfl, h7, a8, b8, rfl, h8, a9, b9, rfl, h9, a10, b10, rfl, h10, a11, b11, rfl, h11, rfl⟩ := h
  obtain ⟨x0, rfl, o0⟩ := fit_i64 Try.underlying3 h0
  obtain ⟨x1, rfl, o1⟩ := fit_i64 Try.underlying3 h1
  obtain ⟨x2, rfl, o2⟩ := fit_i64 Try.underlying3 h2
  obtain ⟨x3, rfl, o3⟩ := fit_i64 Try.underlying3 h3
  obtain ⟨x4, rfl, o4⟩ := fit_i64 Try.underlying3 h4
  obtain ⟨x5, rfl, o5⟩ := fit_i64 Try.underlying3 h5
  obtain ⟨x6, rfl, o6⟩ := fit_i64 Try.underlying3 h6
  obtain ⟨x7, rfl, o7⟩ := fit_i64 Try.underlying3 h7
  obtain ⟨x8, rfl, o8⟩ := fit_i64 Try.underlying3 h8
  obtain ⟨x9, rfl, o9⟩ := fit_i64 Try.underlying3 h9
  obtain ⟨x10, rfl, o10⟩ := VM.fit_string Try.underlying9 h10
  obtain ⟨x11, rfl, o11⟩ := VM.fit_string Try.underlying9 h11
  exact ⟨⟨x0, x1, x2, x3, x4, x5, x6, x7, x8, x9, x10, x11⟩, rfl, o0, o1, o2, o3, o4, o5, o6, o7, o8, o9, o10, o11⟩
/-- 'Message'. -/
structure Message where
  sender : List UInt8
  seq : Int
  kind : Int
  account : Int
  amount : Int
  day : Int
  text : List UInt8
  deriving DecidableEq
abbrev Message.cells (x : Message) : List V := [.s x.sender, .i .i64 x.seq, .i .i64 x.kind, .i .i64 x.account, .i .i64 x.amount, .i .i64 x.day, .s x.text]
abbrev Message.v (x : Message) : V := .a ([.s x.sender, .i .i64 x.seq, .i .i64 x.kind, .i .i64 x.account, .i .i64 x.amount, .i .i64 x.day, .s x.text])
def Message.ok (x : Message) : Prop := x.sender.length ≤ maxLen ∧ I64 x.seq ∧ I64 x.kind ∧ I64 x.account ∧ I64 x.amount ∧ I64 x.day ∧ x.text.length ≤ maxLen
@[simp] theorem Message.all_len (l : List Message) : (encL Message.v l).all (fun x => x.cells.length == 7) = true := encL_all fun _ => rfl
@[simp] theorem Message.len_all (l : List Message) : (∀ x ∈ encL Message.v l, x.cells.length = 7) = True := encL_len fun _ => rfl
theorem fitT30 {n : Nat} {ys : List V} (h : Fit Try.prog (n + 2) 30 ys) : ∃ x : Message, ys = x.cells ∧ x.ok := by
  unfold Fit at h
  rw [Try.underlying30] at h
  simp only [List.foldr_cons, List.foldr_nil] at h
  obtain ⟨a0, b0, rfl, h0, a1, b1, rfl, h1, a2, b2, rfl, h2, a3, b3, rfl, h3, a4, b4, rfl, h4, a5, b5, rfl, h5, a6, b6, rfl, h6, rfl⟩ := h
  obtain ⟨x0, rfl, o0⟩ := VM.fit_string Try.underlying9 h0
  obtain ⟨x1, rfl, o1⟩ := fit_i64 Try.underlying3 h1
  obtain ⟨x2, rfl, o2⟩ := fit_i64 Try.underlying3 h2
  obtain ⟨x3, rfl, o3⟩ := fit_i64 Try.underlying3 h3
  obtain ⟨x4, rfl, o4⟩ := fit_i64 Try.underlying3 h4
  obtain ⟨x5, rfl, o5⟩ := fit_i64 Try.underlying3 h5
  obtain ⟨x6, rfl, o6⟩ := VM.fit_string Try.underlying9 h6
  exact ⟨⟨x0, x1, x2, x3, x4, x5, x6⟩, rfl, o0, o1, o2, o3, o4, o5, o6⟩
theorem fitS31 {n : Nat} {ys : List V} (h : Fit Try.prog (n + 2) 31 ys) : ∃ l : List Int, ys = [.l (encL (V.i .i64) l)] ∧ l.length ≤ maxLen ∧ ∀ y ∈ l, I64 y :=
  fit_list Try.underlying31 (fun _ h => fit_one (by kernel_rfl) (fit_i64 Try.underlying3 h)) h
/-- 'Command'. -/
structure Command where
  kind : Int
  account : Int
  other : Int
  amount : Int
  value : Int
  number : Int
  user : List UInt8
  key : List UInt8
  text : List UInt8
  terms : Terms
  message : Message
  crashes : List Int
  deriving DecidableEq
def Command.cells (x : Command) : List V := [.i .i64 x.kind, .i .i64 x.account, .i .i64 x.other, .i .i64 x.amount, .i .i64 x.value, .i .i64 x.number, .s x.user, .s x.key, .s x.text, .i .i64 x.terms.method, .i .i64 x.terms.principal, .i .i64 x.terms.ppm, .i .i64 x.terms.start, .i .i64 x.terms.every, .i .i64 x.terms.count, .i .i64 x.terms.balloon, .i .i64 x.terms.mode', .i .i64 x.terms.penaltyPpm, .i .i64 x.terms.feePpm, .s x.terms.calendar, .s x.terms.currency, .s x.message.sender, .i .i64 x.message.seq, .i .i64 x.message.kind, .i .i64 x.message.account, .i .i64 x.message.amount, .i .i64 x.message.day, .s x.message.text, .l (encL (V.i .i64) x.crashes)]
abbrev Command.v (x : Command) : V := .a x.cells
def Command.ok (x : Command) : Prop := I64 x.kind ∧ I64 x.account ∧ I64 x.other ∧ I64 x.amount ∧ I64 x.value ∧ I64 x.number ∧ x.user.length ≤ maxLen ∧ x.key.length ≤ maxLen ∧ x.text.length ≤ maxLen ∧ x.terms.ok ∧ x.message.ok ∧ (x.crashes.length ≤ maxLen ∧ ∀ y ∈ x.crashes, I64 y)
@[simp] theorem Command.cells_length (x : Command) : x.cells.length = 29 := rfl
@[simp] theorem Command.cells_cell (x : Command) : (∀ y ∈ x.cells, V.cell y = true) = True := by simp [Command.cells]
@[simp] theorem Command.all_len (l : List Command) : (encL Command.v l).all (fun x => x.cells.length == 29) = true := encL_all fun _ => rfl
@[simp] theorem Command.len_all (l : List Command) : (∀ x ∈ encL Command.v l, x.cells.length = 29) = True := encL_len fun _ => rfl
theorem fitT33 {n : Nat} {ys : List V} (h : Fit Try.prog (n + 3) 33 ys) : ∃ x : Command, ys = x.cells ∧ x.ok := by
  unfold Fit at h
  rw [Try.underlying33] at h
  simp only [List.foldr_cons, List.foldr_nil] at h
  obtain ⟨a0, b0, rfl, h0, a1, b1, rfl, h1, a2, b2, rfl, h2, a3, b3, rfl, h3, a4, b4, rfl, h4, a5, b5, rfl, h5, a6, b6, rfl, h6, a7, b7, rfl, h7, a8, b8, rfl, h8, a9, b9, rfl, h9, a10, b10, rfl, h10, a11, b11, rfl, h11, rfl⟩ := h
  obtain ⟨x0, rfl, o0⟩ := fit_i64 Try.underlying3 h0
  obtain ⟨x1, rfl, o1⟩ := fit_i64 Try.underlying3 h1
  obtain ⟨x2, rfl, o2⟩ := fit_i64 Try.underlying3 h2
  obtain ⟨x3, rfl, o3⟩ := fit_i64 Try.underlying3 h3
  obtain ⟨x4, rfl, o4⟩ := fit_i64 Try.underlying3 h4
  obtain ⟨x5, rfl, o5⟩ := fit_i64 Try.underlying3 h5
  obtain ⟨x6, rfl, o6⟩ := VM.fit_string Try.underlying9 h6
  obtain ⟨x7, rfl, o7⟩ := VM.fit_string Try.underlying9 h7
  obtain ⟨x8, rfl, o8⟩ := VM.fit_string Try.underlying9 h8
  obtain ⟨x9, rfl, o9⟩ := fitT28 h9
  obtain ⟨x10, rfl, o10⟩ := fitT30 h10
  obtain ⟨x11, rfl, o11⟩ := fitS31 h11
  exact ⟨⟨x0, x1, x2, x3, x4, x5, x6, x7, x8, x9, x10, x11⟩, rfl, o0, o1, o2, o3, o4, o5, o6, o7, o8, o9, o10, o11⟩
/-- 'Request'. -/
structure Request where
  id : Int
  day : Int
  until' : Int
  state : Int
  maker : List UInt8
  checker : List UInt8
  command : Command
  deriving DecidableEq
abbrev Request.cells (x : Request) : List V := .i .i64 x.id :: .i .i64 x.day :: .i .i64 x.until' :: .i .i64 x.state :: .s x.maker :: .s x.checker :: x.command.cells
abbrev Request.v (x : Request) : V := .a (.i .i64 x.id :: .i .i64 x.day :: .i .i64 x.until' :: .i .i64 x.state :: .s x.maker :: .s x.checker :: x.command.cells)
def Request.ok (x : Request) : Prop := I64 x.id ∧ I64 x.day ∧ I64 x.until' ∧ I64 x.state ∧ x.maker.length ≤ maxLen ∧ x.checker.length ≤ maxLen ∧ x.command.ok
@[simp] theorem Request.all_len (l : List Request) : (encL Request.v l).all (fun x => x.cells.length == 35) = true := encL_all fun _ => rfl
@[simp] theorem Request.len_all (l : List Request) : (∀ x ∈ encL Request.v l, x.cells.length = 35) = True := encL_len fun _ => rfl
theorem fitT35 {n : Nat} {ys : List V} (h : Fit Try.prog (n + 4) 35 ys) : ∃ x : Request, ys = x.cells ∧ x.ok := by
  unfold Fit at h
  rw [Try.underlying35] at h
  simp only [List.foldr_cons, List.foldr_nil] at h
  obtain ⟨a0, b0, rfl, h0, a1, b1, rfl, h1, a2, b2, rfl, h2, a3, b3, rfl, h3, a4, b4, rfl, h4, a5, b5, rfl, h5, a6, b6, rfl, h6, rfl⟩ := h
  obtain ⟨x0, rfl, o0⟩ := fit_i64 Try.underlying3 h0
  obtain ⟨x1, rfl, o1⟩ := fit_i64 Try.underlying3 h1
  obtain ⟨x2, rfl, o2⟩ := fit_i64 Try.underlying3 h2
  obtain ⟨x3, rfl, o3⟩ := fit_i64 Try.underlying3 h3
  obtain ⟨x4, rfl, o4⟩ := VM.fit_string Try.underlying9 h4
  obtain ⟨x5, rfl, o5⟩ := VM.fit_string Try.underlying9 h5
  obtain ⟨x6, rfl, o6⟩ := fitT33 h6
  exact ⟨⟨x0, x1, x2, x3, x4, x5, x6⟩, rfl, o0, o1, o2, o3, o4, o5, o6⟩
/-- 'User'. -/
structure User where
  name : List UInt8
  rights : Int
  limit : Int
  deriving DecidableEq
abbrev User.cells (x : User) : List V := [.s x.name, .i .i64 x.rights, .i .i64 x.limit]
abbrev User.v (x : User) : V := .a ([.s x.name, .i .i64 x.rights, .i .i64 x.limit])
def User.ok (x : User) : Prop := x.name.length ≤ maxLen ∧ I64 x.rights ∧ I64 x.limit
@[simp] theorem User.all_len (l : List User) : (encL User.v l).all (fun x => x.cells.length == 3) = true := encL_all fun _ => rfl
@[simp] theorem User.len_all (l : List User) : (∀ x ∈ encL User.v l, x.cells.length = 3) = True := encL_len fun _ => rfl
theorem fitT50 {n : Nat} {ys : List V} (h : Fit Try.prog (n + 2) 50 ys) : ∃ x : User, ys = x.cells ∧ x.ok := by
  unfold Fit at h
  rw [Try.underlying50] at h
  simp only [List.foldr_cons, List.foldr_nil] at h
  obtain ⟨a0, b0, rfl, h0, a1, b1, rfl, h1, a2, b2, rfl, h2, rfl⟩ := h
  obtain ⟨x0, rfl, o0⟩ := VM.fit_string Try.underlying9 h0
  obtain ⟨x1, rfl, o1⟩ := fit_i64 Try.underlying3 h1
  obtain ⟨x2, rfl, o2⟩ := fit_i64 Try.underlying3 h2
  exact ⟨⟨x0, x1, x2⟩, rfl, o0, o1, o2⟩
/-- 'Ask'. -/
structure Ask where
  id : Int
  name : List UInt8
  day : Int
  deriving DecidableEq
abbrev Ask.cells (x : Ask) : List V := [.i .i64 x.id, .s x.name, .i .i64 x.day]
abbrev Ask.v (x : Ask) : V := .a ([.i .i64 x.id, .s x.name, .i .i64 x.day])
def Ask.ok (x : Ask) : Prop := I64 x.id ∧ x.name.length ≤ maxLen ∧ I64 x.day
@[simp] theorem Ask.all_len (l : List Ask) : (encL Ask.v l).all (fun x => x.cells.length == 3) = true := encL_all fun _ => rfl
@[simp] theorem Ask.len_all (l : List Ask) : (∀ x ∈ encL Ask.v l, x.cells.length = 3) = True := encL_len fun _ => rfl
theorem fitT42 {n : Nat} {ys : List V} (h : Fit Try.prog (n + 2) 42 ys) : ∃ x : Ask, ys = x.cells ∧ x.ok := by
  unfold Fit at h
  rw [Try.underlying42] at h
  simp only [List.foldr_cons, List.foldr_nil] at h
  obtain ⟨a0, b0, rfl, h0, a1, b1, rfl, h1, a2, b2, rfl, h2, rfl⟩ := h
  obtain ⟨x0, rfl, o0⟩ := fit_i64 Try.underlying3 h0
  obtain ⟨x1, rfl, o1⟩ := VM.fit_string Try.underlying9 h1
  obtain ⟨x2, rfl, o2⟩ := fit_i64 Try.underlying3 h2
  exact ⟨⟨x0, x1, x2⟩, rfl, o0, o1, o2⟩
theorem fitS22 {n : Nat} {ys : List V} (h : Fit Try.prog (n + 5) 22 ys) : ∃ l : List Request, ys = [.l (encL Request.v l)] ∧ l.length ≤ maxLen ∧ ∀ y ∈ l, y.ok :=
  fit_list Try.underlying22 (fun _ h => fit_agg (by kernel_rfl) (fitT35 h)) h
theorem pack22 (x : V) : packT Try.prog 22 [x] = x := pack_one (by kernel_rfl) x
theorem pack35 (ys : List V) : packT Try.prog 35 ys = .a ys := pack_agg (by kernel_rfl) ys
theorem fitS40 {n : Nat} {ys : List V} (h : Fit Try.prog (n + 3) 40 ys) : ∃ l : List User, ys = [.l (encL User.v l)] ∧ l.length ≤ maxLen ∧ ∀ y ∈ l, y.ok :=
  fit_list Try.underlying40 (fun _ h => fit_agg (by kernel_rfl) (fitT50 h)) h
theorem pack40 (x : V) : packT Try.prog 40 [x] = x := pack_one (by kernel_rfl) x
theorem pack42 (ys : List V) : packT Try.prog 42 ys = .a ys := pack_agg (by kernel_rfl) ys
theorem pack3 (x : V) : packT Try.prog 3 [x] = x := pack_one (by kernel_rfl) x
end Go.Proofs.Ythonmlhljdhlbaa
