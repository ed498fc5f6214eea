/-
A part of the proof of the last text.
-/
import Derived.Test.YtdlpbedneamebaaGreatDoorCode
set_option linter.all false
namespace Go.Proofs.YtdlpbedneamebaaGreatDoor
open Go.VM
set_option maxRecDepth 100000
structure gR where
 code:List UInt8
 digits:Int
 deriving DecidableEq
abbrev gR.cells (x:gR):List V:=[.s x.code,.i .i64 x.digits]
abbrev gR.v (x:gR):V:= .a ([.s x.code,.i .i64 x.digits])
def gR.ok (x:gR):Prop:=x.code.length<=maxLen/\bR x.digits
@[simp] def gR.all_len (l:List gR):(aB gR.v l).all (fun x=>x.cells.length==2)=true:=mU fun _=>rfl
@[simp] def gR.len_all (l:List gR):(∀x∈aB gR.v l,x.cells.length=2)=True:=qB fun _=>rfl
def eJ5 {n:Nat}{ys:List V}(h:cY Tryz.prog (n+2) 52 ys):∃x:gR,ys=x.cells/\x.ok:=by unfold cY at h;rw[Tryz.underlying52] at h;simp only[xA,xC] at h;obtain⟨a0,b0,rfl,h0,a1,b1,rfl,h1,rfl⟩:=h;obtain⟨x0,rfl,o0⟩:=VM.fit_string Tryz.underlying9 h0;obtain⟨x1,rfl,o1⟩:=fX Tryz.underlying3 h1;exact⟨⟨x0,x1⟩,rfl,o0,o1⟩
def aB8 {n:Nat}{ys:List V}(h:cY Tryz.prog (n+2) 39 ys):∃l:List Int,ys=[.l (aB (V.i .i64) l)]/\l.length<=maxLen/\∀y∈l,bR y:=
 Cw Tryz.underlying39 (fun _ h=>eJ1 (by kernel_rfl) (fX Tryz.underlying3 h)) h
structure iB where
 name:List UInt8
 weekend:List Int
 holidays:List Int
 deriving DecidableEq
abbrev iB.cells (x:iB):List V:=[.s x.name,.l (aB (V.i .i64) x.weekend),.l (aB (V.i .i64) x.holidays)]
abbrev iB.v (x:iB):V:= .a ([.s x.name,.l (aB (V.i .i64) x.weekend),.l (aB (V.i .i64) x.holidays)])
def iB.ok (x:iB):Prop:=x.name.length<=maxLen/\(x.weekend.length<=maxLen/\∀y∈x.weekend,bR y)/\(x.holidays.length<=maxLen/\∀y∈x.holidays,bR y)
@[simp] def iB.all_len (l:List iB):(aB iB.v l).all (fun x=>x.cells.length==3)=true:=mU fun _=>rfl
@[simp] def iB.len_all (l:List iB):(∀x∈aB iB.v l,x.cells.length=3)=True:=qB fun _=>rfl
def eJ2 {n:Nat}{ys:List V}(h:cY Tryz.prog (n+3) 94 ys):∃x:iB,ys=x.cells/\x.ok:=by unfold cY at h;rw[Tryz.underlying94] at h;simp only[xA,xC] at h;obtain⟨a0,b0,rfl,h0,a1,b1,rfl,h1,a2,b2,rfl,h2,rfl⟩:=h;obtain⟨x0,rfl,o0⟩:=VM.fit_string Tryz.underlying9 h0;obtain⟨x1,rfl,o1⟩:=aB8 h1;obtain⟨x2,rfl,o2⟩:=aB8 h2;exact⟨⟨x0,x1,x2⟩,rfl,o0,o1,o2⟩
structure Gl where
 id:Int
 parent:Int
 kind:Int
 name:List UInt8
 deriving DecidableEq
abbrev Gl.cells (x:Gl):List V:=[.i .i64 x.id,.i .i64 x.parent,.i .i64 x.kind,.s x.name]
abbrev Gl.v (x:Gl):V:= .a ([.i .i64 x.id,.i .i64 x.parent,.i .i64 x.kind,.s x.name])
def Gl.ok (x:Gl):Prop:=bR x.id/\bR x.parent/\bR x.kind/\x.name.length<=maxLen
@[simp] def Gl.all_len (l:List Gl):(aB Gl.v l).all (fun x=>x.cells.length==4)=true:=mU fun _=>rfl
@[simp] def Gl.len_all (l:List Gl):(∀x∈aB Gl.v l,x.cells.length=4)=True:=qB fun _=>rfl
def eJ6 {n:Nat}{ys:List V}(h:cY Tryz.prog (n+2) 38 ys):∃x:Gl,ys=x.cells/\x.ok:=by unfold cY at h;rw[Tryz.underlying38] at h;simp only[xA,xC] at h;obtain⟨a0,b0,rfl,h0,a1,b1,rfl,h1,a2,b2,rfl,h2,a3,b3,rfl,h3,rfl⟩:=h;obtain⟨x0,rfl,o0⟩:=fX Tryz.underlying3 h0;obtain⟨x1,rfl,o1⟩:=fX Tryz.underlying3 h1;obtain⟨x2,rfl,o2⟩:=fX Tryz.underlying3 h2;obtain⟨x3,rfl,o3⟩:=VM.fit_string Tryz.underlying9 h3;exact⟨⟨x0,x1,x2,x3⟩,rfl,o0,o1,o2,o3⟩
structure nU where
 cash:Int
 deposits:Int
 interestPaid:Int
 interestEarned:Int
 feeEarned:Int
 tax:Int
 clearing:Int
 loans:Int
 loanInterest:Int
 penalty:Int
 provision:Int
 provisionCost:Int
 loss:Int
 recovery:Int
 deriving DecidableEq
abbrev nU.cells (x:nU):List V:=[.i .i64 x.cash,.i .i64 x.deposits,.i .i64 x.interestPaid,.i .i64 x.interestEarned,.i .i64 x.feeEarned,.i .i64 x.tax,.i .i64 x.clearing,.i .i64 x.loans,.i .i64 x.loanInterest,.i .i64 x.penalty,.i .i64 x.provision,.i .i64 x.provisionCost,.i .i64 x.loss,.i .i64 x.recovery]
abbrev nU.v (x:nU):V:= .a ([.i .i64 x.cash,.i .i64 x.deposits,.i .i64 x.interestPaid,.i .i64 x.interestEarned,.i .i64 x.feeEarned,.i .i64 x.tax,.i .i64 x.clearing,.i .i64 x.loans,.i .i64 x.loanInterest,.i .i64 x.penalty,.i .i64 x.provision,.i .i64 x.provisionCost,.i .i64 x.loss,.i .i64 x.recovery])
def nU.ok (x:nU):Prop:=bR x.cash/\bR x.deposits/\bR x.interestPaid/\bR x.interestEarned/\bR x.feeEarned/\bR x.tax/\bR x.clearing/\bR x.loans/\bR x.loanInterest/\bR x.penalty/\bR x.provision/\bR x.provisionCost/\bR x.loss/\bR x.recovery
@[simp] def nU.all_len (l:List nU):(aB nU.v l).all (fun x=>x.cells.length==14)=true:=mU fun _=>rfl
@[simp] def nU.len_all (l:List nU):(∀x∈aB nU.v l,x.cells.length=14)=True:=qB fun _=>rfl
def eJ8 {n:Nat}{ys:List V}(h:cY Tryz.prog (n+2) 26 ys):∃x:nU,ys=x.cells/\x.ok:=by unfold cY at h;rw[Tryz.underlying26] at h;simp only[xA,xC] at h;obtain⟨a0,b0,rfl,h0,a1,b1,rfl,h1,a2,b2,rfl,h2,a3,b3,rfl,h3,a4,b4,rfl,h4,a5,b5,rfl,h5,a6,b6,rfl,h6,a7,b7,rfl,h7,a8,b8,rfl,h8,a9,b9,rfl,h9,a10,b10,rfl,oT,a11,b11,rfl,uG,a12,b12,rfl,kF,a13,b13,rfl,qS,rfl⟩:=h;obtain⟨x0,rfl,o0⟩:=fX Tryz.underlying3 h0;obtain⟨x1,rfl,o1⟩:=fX Tryz.underlying3 h1;obtain⟨x2,rfl,o2⟩:=fX Tryz.underlying3 h2;obtain⟨x3,rfl,o3⟩:=fX Tryz.underlying3 h3;obtain⟨x4,rfl,o4⟩:=fX Tryz.underlying3 h4;obtain⟨x5,rfl,o5⟩:=fX Tryz.underlying3 h5;obtain⟨x6,rfl,o6⟩:=fX Tryz.underlying3 h6;obtain⟨x7,rfl,o7⟩:=fX Tryz.underlying3 h7;obtain⟨x8,rfl,o8⟩:=fX Tryz.underlying3 h8;obtain⟨x9,rfl,o9⟩:=fX Tryz.underlying3 h9;obtain⟨x10,rfl,o10⟩:=fX Tryz.underlying3 oT;obtain⟨x11,rfl,o11⟩:=fX Tryz.underlying3 uG;obtain⟨x12,rfl,Dq⟩:=fX Tryz.underlying3 kF;obtain⟨x13,rfl,o13⟩:=fX Tryz.underlying3 qS;exact⟨⟨x0,x1,x2,x3,x4,x5,x6,x7,x8,x9,x10,x11,x12,x13⟩,rfl,o0,o1,o2,o3,o4,o5,o6,o7,o8,o9,o10,o11,Dq,o13⟩
structure k5 where
 from':Int
 ppm:Int
 deriving DecidableEq
abbrev k5.cells (x:k5):List V:=[.i .i64 x.from',.i .i64 x.ppm]
abbrev k5.v (x:k5):V:= .a ([.i .i64 x.from',.i .i64 x.ppm])
def k5.ok (x:k5):Prop:=bR x.from'/\bR x.ppm
@[simp] def k5.all_len (l:List k5):(aB k5.v l).all (fun x=>x.cells.length==2)=true:=mU fun _=>rfl
@[simp] def k5.len_all (l:List k5):(∀x∈aB k5.v l,x.cells.length=2)=True:=qB fun _=>rfl
def eK5 {n:Nat}{ys:List V}(h:cY Tryz.prog (n+2) 107 ys):∃x:k5,ys=x.cells/\x.ok:=by unfold cY at h;rw[Tryz.underlying107] at h;simp only[xA,xC] at h;obtain⟨a0,b0,rfl,h0,a1,b1,rfl,h1,rfl⟩:=h;obtain⟨x0,rfl,o0⟩:=fX Tryz.underlying3 h0;obtain⟨x1,rfl,o1⟩:=fX Tryz.underlying3 h1;exact⟨⟨x0,x1⟩,rfl,o0,o1⟩
def eL6 {n:Nat}{ys:List V}(h:cY Tryz.prog (n+3) 108 ys):∃l:List k5,ys=[.l (aB k5.v l)]/\l.length<=maxLen/\∀y∈l,y.ok:=
 Cw Tryz.underlying108 (fun _ h=>EM (by kernel_rfl) (eK5 h)) h
structure zP where
 tiers:List k5
 marginal:Bool
 basis:Int
 mode':Int
 keep:Bool
 deriving DecidableEq
abbrev zP.cells (x:zP):List V:=[.l (aB k5.v x.tiers),.b x.marginal,.i .i64 x.basis,.i .i64 x.mode',.b x.keep]
abbrev zP.v (x:zP):V:= .a ([.l (aB k5.v x.tiers),.b x.marginal,.i .i64 x.basis,.i .i64 x.mode',.b x.keep])
def zP.ok (x:zP):Prop:=(x.tiers.length<=maxLen/\∀y∈x.tiers,y.ok)/\True/\bR x.basis/\bR x.mode'/\True
@[simp] def zP.all_len (l:List zP):(aB zP.v l).all (fun x=>x.cells.length==5)=true:=mU fun _=>rfl
@[simp] def zP.len_all (l:List zP):(∀x∈aB zP.v l,x.cells.length=5)=True:=qB fun _=>rfl
def bT3 {n:Nat}{ys:List V}(h:cY Tryz.prog (n+4) 110 ys):∃x:zP,ys=x.cells/\x.ok:=by unfold cY at h;rw[Tryz.underlying110] at h;simp only[xA,xC] at h;obtain⟨a0,b0,rfl,h0,a1,b1,rfl,h1,a2,b2,rfl,h2,a3,b3,rfl,h3,a4,b4,rfl,h4,rfl⟩:=h;obtain⟨x0,rfl,o0⟩:=eL6 h0;obtain⟨x1,rfl⟩:=bT2 Tryz.underlying4 h1;have o1:True:=trivial;obtain⟨x2,rfl,o2⟩:=fX Tryz.underlying3 h2;obtain⟨x3,rfl,o3⟩:=fX Tryz.underlying3 h3;obtain⟨x4,rfl⟩:=bT2 Tryz.underlying4 h4;have o4:True:=trivial;exact⟨⟨x0,x1,x2,x3,x4⟩,rfl,o0,o1,o2,o3,o4⟩
def pH:Nat->List V->Prop
 |0,_=>True|n+1,ys=>∃op k s args,ys=[.i .i64 op,.i .i64 k,.s s,.l args]/\args.length<=maxLen/\∀y∈args,∃zs,y= .a zs/\pH n zs
def bT1:∀(m n:Nat) {ys:List V},cY Tryz.prog (n+2*m) 198 ys->pH m ys
 |0,_,_,_=>trivial|m+1,n,ys,h=>by rw[show n+2*(m+1)=n+2*m+1+1 from by omega] at h;unfold cY at h;rw[Tryz.underlying198] at h;simp only[xA,xC] at h;obtain⟨a0,b0,rfl,h0,a1,b1,rfl,h1,a2,b2,rfl,h2,a3,b3,rfl,h3,rfl⟩:=h;obtain⟨x0,rfl,_⟩:=fX Tryz.underlying3 h0;obtain⟨x1,rfl,_⟩:=fX Tryz.underlying3 h1;obtain⟨x2,rfl,_⟩:=VM.fit_string Tryz.underlying9 h2;obtain⟨x3,rfl,o3,o4⟩:=aB6 Tryz.underlying196 h3;refine⟨x0,x1,x2,x3,rfl,o3,fun y hy=> ?_⟩;obtain⟨zs,hz,he⟩:=o4 y hy;rw[aY (by kernel_rfl:eJ Tryz.prog 198=true)] at he;exact⟨zs,he,bT1 m n hz⟩
structure rJ where
 op:Int
 n:Int
 s:List UInt8
 args:List V
abbrev rJ.cells (x:rJ):List V:=[.i .i64 x.op,.i .i64 x.n,.s x.s,.l x.args]
abbrev rJ.v (x:rJ):V:= .a ([.i .i64 x.op,.i .i64 x.n,.s x.s,.l x.args])
def rJ.ok (x:rJ):Prop:=bR x.op/\bR x.n/\x.s.length<=maxLen/\x.args.length<=maxLen/\pH 102 x.cells
@[simp] def rJ.all_len (l:List rJ):(aB rJ.v l).all (fun x=>x.cells.length==4)=true:=mU fun _=>rfl
@[simp] def rJ.len_all (l:List rJ):(∀x∈aB rJ.v l,x.cells.length=4)=True:=qB fun _=>rfl
def aB7 {n:Nat}{ys:List V}(h:cY Tryz.prog (n+300) 198 ys):∃x:rJ,ys=x.cells/\x.ok:=by have hx:=bT1 102 (n+96) h;unfold cY at h;rw[Tryz.underlying198] at h;simp only[xA,xC] at h;obtain⟨a0,b0,rfl,h0,a1,b1,rfl,h1,a2,b2,rfl,h2,a3,b3,rfl,h3,rfl⟩:=h;obtain⟨x0,rfl,o0⟩:=fX Tryz.underlying3 h0;obtain⟨x1,rfl,o1⟩:=fX Tryz.underlying3 h1;obtain⟨x2,rfl,o2⟩:=VM.fit_string Tryz.underlying9 h2;obtain⟨x3,rfl,o3,_⟩:=aB6 Tryz.underlying196 h3;exact⟨⟨x0,x1,x2,x3⟩,rfl,o0,o1,o2,o3,hx⟩
structure nV where
 name:List UInt8
 event:Int
 when:rJ
 amount:rJ
abbrev nV.cells (x:nV):List V:=[.s x.name,.i .i64 x.event,.i .i64 x.when.op,.i .i64 x.when.n,.s x.when.s,.l x.when.args,.i .i64 x.amount.op,.i .i64 x.amount.n,.s x.amount.s,.l x.amount.args]
abbrev nV.v (x:nV):V:= .a ([.s x.name,.i .i64 x.event,.i .i64 x.when.op,.i .i64 x.when.n,.s x.when.s,.l x.when.args,.i .i64 x.amount.op,.i .i64 x.amount.n,.s x.amount.s,.l x.amount.args])
def nV.ok (x:nV):Prop:=x.name.length<=maxLen/\bR x.event/\x.when.ok/\x.amount.ok
@[simp] def nV.all_len (l:List nV):(aB nV.v l).all (fun x=>x.cells.length==10)=true:=mU fun _=>rfl
@[simp] def nV.len_all (l:List nV):(∀x∈aB nV.v l,x.cells.length=10)=True:=qB fun _=>rfl
def eK0 {n:Nat}{ys:List V}(h:cY Tryz.prog (n+301) 200 ys):∃x:nV,ys=x.cells/\x.ok:=by unfold cY at h;rw[Tryz.underlying200] at h;simp only[xA,xC] at h;obtain⟨a0,b0,rfl,h0,a1,b1,rfl,h1,a2,b2,rfl,h2,a3,b3,rfl,h3,rfl⟩:=h;obtain⟨x0,rfl,o0⟩:=VM.fit_string Tryz.underlying9 h0;obtain⟨x1,rfl,o1⟩:=fX Tryz.underlying3 h1;obtain⟨x2,rfl,o2⟩:=aB7 h2;obtain⟨x3,rfl,o3⟩:=aB7 h3;exact⟨⟨x0,x1,x2,x3⟩,rfl,o0,o1,o2,o3⟩
structure kS where
 name:List UInt8
 window:Int
 amount:rJ
abbrev kS.cells (x:kS):List V:=[.s x.name,.i .i64 x.window,.i .i64 x.amount.op,.i .i64 x.amount.n,.s x.amount.s,.l x.amount.args]
abbrev kS.v (x:kS):V:= .a ([.s x.name,.i .i64 x.window,.i .i64 x.amount.op,.i .i64 x.amount.n,.s x.amount.s,.l x.amount.args])
def kS.ok (x:kS):Prop:=x.name.length<=maxLen/\bR x.window/\x.amount.ok
@[simp] def kS.all_len (l:List kS):(aB kS.v l).all (fun x=>x.cells.length==6)=true:=mU fun _=>rfl
@[simp] def kS.len_all (l:List kS):(∀x∈aB kS.v l,x.cells.length=6)=True:=qB fun _=>rfl
def eJ9 {n:Nat}{ys:List V}(h:cY Tryz.prog (n+301) 203 ys):∃x:kS,ys=x.cells/\x.ok:=by unfold cY at h;rw[Tryz.underlying203] at h;simp only[xA,xC] at h;obtain⟨a0,b0,rfl,h0,a1,b1,rfl,h1,a2,b2,rfl,h2,rfl⟩:=h;obtain⟨x0,rfl,o0⟩:=VM.fit_string Tryz.underlying9 h0;obtain⟨x1,rfl,o1⟩:=fX Tryz.underlying3 h1;obtain⟨x2,rfl,o2⟩:=aB7 h2;exact⟨⟨x0,x1,x2⟩,rfl,o0,o1,o2⟩
def eL5 {n:Nat}{ys:List V}(h:cY Tryz.prog (n+302) 111 ys):∃l:List nV,ys=[.l (aB nV.v l)]/\l.length<=maxLen/\∀y∈l,y.ok:=
 Cw Tryz.underlying111 (fun _ h=>EM (by kernel_rfl) (eK0 h)) h
def eL4 {n:Nat}{ys:List V}(h:cY Tryz.prog (n+302) 112 ys):∃l:List kS,ys=[.l (aB kS.v l)]/\l.length<=maxLen/\∀y∈l,y.ok:=
 Cw Tryz.underlying112 (fun _ h=>EM (by kernel_rfl) (eJ9 h)) h
structure dO where
 name:List UInt8
 currency:List UInt8
 calendar:List UInt8
 from':Int
 every:Int
 overdraft:Int
 taxPpm:Int
 credit:zP
 debit:zP
 fees:List nV
 rules:List kS
abbrev dO.cells (x:dO):List V:=[.s x.name,.s x.currency,.s x.calendar,.i .i64 x.from',.i .i64 x.every,.i .i64 x.overdraft,.i .i64 x.taxPpm,.l (aB k5.v x.credit.tiers),.b x.credit.marginal,.i .i64 x.credit.basis,.i .i64 x.credit.mode',.b x.credit.keep,.l (aB k5.v x.debit.tiers),.b x.debit.marginal,.i .i64 x.debit.basis,.i .i64 x.debit.mode',.b x.debit.keep,.l (aB nV.v x.fees),.l (aB kS.v x.rules)]
abbrev dO.v (x:dO):V:= .a ([.s x.name,.s x.currency,.s x.calendar,.i .i64 x.from',.i .i64 x.every,.i .i64 x.overdraft,.i .i64 x.taxPpm,.l (aB k5.v x.credit.tiers),.b x.credit.marginal,.i .i64 x.credit.basis,.i .i64 x.credit.mode',.b x.credit.keep,.l (aB k5.v x.debit.tiers),.b x.debit.marginal,.i .i64 x.debit.basis,.i .i64 x.debit.mode',.b x.debit.keep,.l (aB nV.v x.fees),.l (aB kS.v x.rules)])
def dO.ok (x:dO):Prop:=x.name.length<=maxLen/\x.currency.length<=maxLen/\x.calendar.length<=maxLen/\bR x.from'/\bR x.every/\bR x.overdraft/\bR x.taxPpm/\x.credit.ok/\x.debit.ok/\(x.fees.length<=maxLen/\∀y∈x.fees,y.ok)/\(x.rules.length<=maxLen/\∀y∈x.rules,y.ok)
@[simp] def dO.all_len (l:List dO):(aB dO.v l).all (fun x=>x.cells.length==19)=true:=mU fun _=>rfl
@[simp] def dO.len_all (l:List dO):(∀x∈aB dO.v l,x.cells.length=19)=True:=qB fun _=>rfl
def eK4 {n:Nat}{ys:List V}(h:cY Tryz.prog (n+303) 114 ys):∃x:dO,ys=x.cells/\x.ok:=by unfold cY at h;rw[Tryz.underlying114] at h;simp only[xA,xC] at h;obtain⟨a0,b0,rfl,h0,a1,b1,rfl,h1,a2,b2,rfl,h2,a3,b3,rfl,h3,a4,b4,rfl,h4,a5,b5,rfl,h5,a6,b6,rfl,h6,a7,b7,rfl,h7,a8,b8,rfl,h8,a9,b9,rfl,h9,a10,b10,rfl,oT,rfl⟩:=h;obtain⟨x0,rfl,o0⟩:=VM.fit_string Tryz.underlying9 h0;obtain⟨x1,rfl,o1⟩:=VM.fit_string Tryz.underlying9 h1;obtain⟨x2,rfl,o2⟩:=VM.fit_string Tryz.underlying9 h2;obtain⟨x3,rfl,o3⟩:=fX Tryz.underlying3 h3;obtain⟨x4,rfl,o4⟩:=fX Tryz.underlying3 h4;obtain⟨x5,rfl,o5⟩:=fX Tryz.underlying3 h5;obtain⟨x6,rfl,o6⟩:=fX Tryz.underlying3 h6;obtain⟨x7,rfl,o7⟩:=bT3 h7;obtain⟨x8,rfl,o8⟩:=bT3 h8;obtain⟨x9,rfl,o9⟩:=eL5 h9;obtain⟨x10,rfl,o10⟩:=eL4 oT;exact⟨⟨x0,x1,x2,x3,x4,x5,x6,x7,x8,x9,x10⟩,rfl,o0,o1,o2,o3,o4,o5,o6,o7,o8,o9,o10⟩
structure iN where
 id:Int
 opened:Int
 closed:Int
 extra:Int
 owner:List UInt8
 product:List UInt8
 number:List UInt8
 deriving DecidableEq
abbrev iN.cells (x:iN):List V:=[.i .i64 x.id,.i .i64 x.opened,.i .i64 x.closed,.i .i64 x.extra,.s x.owner,.s x.product,.s x.number]
abbrev iN.v (x:iN):V:= .a ([.i .i64 x.id,.i .i64 x.opened,.i .i64 x.closed,.i .i64 x.extra,.s x.owner,.s x.product,.s x.number])
def iN.ok (x:iN):Prop:=bR x.id/\bR x.opened/\bR x.closed/\bR x.extra/\x.owner.length<=maxLen/\x.product.length<=maxLen/\x.number.length<=maxLen
@[simp] def iN.all_len (l:List iN):(aB iN.v l).all (fun x=>x.cells.length==7)=true:=mU fun _=>rfl
@[simp] def iN.len_all (l:List iN):(∀x∈aB iN.v l,x.cells.length=7)=True:=qB fun _=>rfl
def eK3 {n:Nat}{ys:List V}(h:cY Tryz.prog (n+2) 117 ys):∃x:iN,ys=x.cells/\x.ok:=by unfold cY at h;rw[Tryz.underlying117] at h;simp only[xA,xC] at h;obtain⟨a0,b0,rfl,h0,a1,b1,rfl,h1,a2,b2,rfl,h2,a3,b3,rfl,h3,a4,b4,rfl,h4,a5,b5,rfl,h5,a6,b6,rfl,h6,rfl⟩:=h;obtain⟨x0,rfl,o0⟩:=fX Tryz.underlying3 h0;obtain⟨x1,rfl,o1⟩:=fX Tryz.underlying3 h1;obtain⟨x2,rfl,o2⟩:=fX Tryz.underlying3 h2;obtain⟨x3,rfl,o3⟩:=fX Tryz.underlying3 h3;obtain⟨x4,rfl,o4⟩:=VM.fit_string Tryz.underlying9 h4;obtain⟨x5,rfl,o5⟩:=VM.fit_string Tryz.underlying9 h5;obtain⟨x6,rfl,o6⟩:=VM.fit_string Tryz.underlying9 h6;exact⟨⟨x0,x1,x2,x3,x4,x5,x6⟩,rfl,o0,o1,o2,o3,o4,o5,o6⟩
structure bG where
 account:Int
 amount:Int
 currency:List UInt8
 deriving DecidableEq
abbrev bG.cells (x:bG):List V:=[.i .i64 x.account,.i .i64 x.amount,.s x.currency]
abbrev bG.v (x:bG):V:= .a ([.i .i64 x.account,.i .i64 x.amount,.s x.currency])
def bG.ok (x:bG):Prop:=bR x.account/\bR x.amount/\x.currency.length<=maxLen
@[simp] def bG.all_len (l:List bG):(aB bG.v l).all (fun x=>x.cells.length==3)=true:=mU fun _=>rfl
@[simp] def bG.len_all (l:List bG):(∀x∈aB bG.v l,x.cells.length=3)=True:=qB fun _=>rfl
def eJ3 {n:Nat}{ys:List V}(h:cY Tryz.prog (n+2) 61 ys):∃x:bG,ys=x.cells/\x.ok:=by unfold cY at h;rw[Tryz.underlying61] at h;simp only[xA,xC] at h;obtain⟨a0,b0,rfl,h0,a1,b1,rfl,h1,a2,b2,rfl,h2,rfl⟩:=h;obtain⟨x0,rfl,o0⟩:=fX Tryz.underlying3 h0;obtain⟨x1,rfl,o1⟩:=fX Tryz.underlying3 h1;obtain⟨x2,rfl,o2⟩:=VM.fit_string Tryz.underlying9 h2;exact⟨⟨x0,x1,x2⟩,rfl,o0,o1,o2⟩
def eK6 {n:Nat}{ys:List V}(h:cY Tryz.prog (n+3) 56 ys):∃l:List bG,ys=[.l (aB bG.v l)]/\l.length<=maxLen/\∀y∈l,y.ok:=
 Cw Tryz.underlying56 (fun _ h=>EM (by kernel_rfl) (eJ3 h)) h
structure aW where
 id:Int
 booked:Int
 value:Int
 kind:Int
 auth:Int
 period:Int
 key:List UInt8
 text:List UInt8
 legs:List bG
 chain:Int
 deriving DecidableEq
abbrev aW.cells (x:aW):List V:=[.i .i64 x.id,.i .i64 x.booked,.i .i64 x.value,.i .i64 x.kind,.i .i64 x.auth,.i .i64 x.period,.s x.key,.s x.text,.l (aB bG.v x.legs),.i .u64 x.chain]
abbrev aW.v (x:aW):V:= .a ([.i .i64 x.id,.i .i64 x.booked,.i .i64 x.value,.i .i64 x.kind,.i .i64 x.auth,.i .i64 x.period,.s x.key,.s x.text,.l (aB bG.v x.legs),.i .u64 x.chain])
def aW.ok (x:aW):Prop:=bR x.id/\bR x.booked/\bR x.value/\bR x.kind/\bR x.auth/\bR x.period/\x.key.length<=maxLen/\x.text.length<=maxLen/\(x.legs.length<=maxLen/\∀y∈x.legs,y.ok)/\(Lit.int .u64 x.chain).wf=true
@[simp] def aW.all_len (l:List aW):(aB aW.v l).all (fun x=>x.cells.length==10)=true:=mU fun _=>rfl
@[simp] def aW.len_all (l:List aW):(∀x∈aB aW.v l,x.cells.length=10)=True:=qB fun _=>rfl
def eJ4 {n:Nat}{ys:List V}(h:cY Tryz.prog (n+4) 59 ys):∃x:aW,ys=x.cells/\x.ok:=by unfold cY at h;rw[Tryz.underlying59] at h;simp only[xA,xC] at h;obtain⟨a0,b0,rfl,h0,a1,b1,rfl,h1,a2,b2,rfl,h2,a3,b3,rfl,h3,a4,b4,rfl,h4,a5,b5,rfl,h5,a6,b6,rfl,h6,a7,b7,rfl,h7,a8,b8,rfl,h8,a9,b9,rfl,h9,rfl⟩:=h;obtain⟨x0,rfl,o0⟩:=fX Tryz.underlying3 h0;obtain⟨x1,rfl,o1⟩:=fX Tryz.underlying3 h1;obtain⟨x2,rfl,o2⟩:=fX Tryz.underlying3 h2;obtain⟨x3,rfl,o3⟩:=fX Tryz.underlying3 h3;obtain⟨x4,rfl,o4⟩:=fX Tryz.underlying3 h4;obtain⟨x5,rfl,o5⟩:=fX Tryz.underlying3 h5;obtain⟨x6,rfl,o6⟩:=VM.fit_string Tryz.underlying9 h6;obtain⟨x7,rfl,o7⟩:=VM.fit_string Tryz.underlying9 h7;obtain⟨x8,rfl,o8⟩:=eK6 h8;obtain⟨x9,rfl,o9⟩:=bT0 Tryz.underlying57 h9;exact⟨⟨x0,x1,x2,x3,x4,x5,x6,x7,x8,x9⟩,rfl,o0,o1,o2,o3,o4,o5,o6,o7,o8,o9⟩
structure fS where
 id:Int
 account:Int
 amount:Int
 from':Int
 to':Int
 key:List UInt8
 deriving DecidableEq
abbrev fS.cells (x:fS):List V:=[.i .i64 x.id,.i .i64 x.account,.i .i64 x.amount,.i .i64 x.from',.i .i64 x.to',.s x.key]
abbrev fS.v (x:fS):V:= .a ([.i .i64 x.id,.i .i64 x.account,.i .i64 x.amount,.i .i64 x.from',.i .i64 x.to',.s x.key])
def fS.ok (x:fS):Prop:=bR x.id/\bR x.account/\bR x.amount/\bR x.from'/\bR x.to'/\x.key.length<=maxLen
@[simp] def fS.all_len (l:List fS):(aB fS.v l).all (fun x=>x.cells.length==6)=true:=mU fun _=>rfl
@[simp] def fS.len_all (l:List fS):(∀x∈aB fS.v l,x.cells.length=6)=True:=qB fun _=>rfl
def eK2 {n:Nat}{ys:List V}(h:cY Tryz.prog (n+2) 152 ys):∃x:fS,ys=x.cells/\x.ok:=by unfold cY at h;rw[Tryz.underlying152] at h;simp only[xA,xC] at h;obtain⟨a0,b0,rfl,h0,a1,b1,rfl,h1,a2,b2,rfl,h2,a3,b3,rfl,h3,a4,b4,rfl,h4,a5,b5,rfl,h5,rfl⟩:=h;obtain⟨x0,rfl,o0⟩:=fX Tryz.underlying3 h0;obtain⟨x1,rfl,o1⟩:=fX Tryz.underlying3 h1;obtain⟨x2,rfl,o2⟩:=fX Tryz.underlying3 h2;obtain⟨x3,rfl,o3⟩:=fX Tryz.underlying3 h3;obtain⟨x4,rfl,o4⟩:=fX Tryz.underlying3 h4;obtain⟨x5,rfl,o5⟩:=VM.fit_string Tryz.underlying9 h5;exact⟨⟨x0,x1,x2,x3,x4,x5⟩,rfl,o0,o1,o2,o3,o4,o5⟩
structure cF where
 id:Int
 account:Int
 kind:Int
 amount:Int
 from':Int
 to':Int
 source:List UInt8
 deriving DecidableEq
abbrev cF.cells (x:cF):List V:=[.i .i64 x.id,.i .i64 x.account,.i .i64 x.kind,.i .i64 x.amount,.i .i64 x.from',.i .i64 x.to',.s x.source]
abbrev cF.v (x:cF):V:= .a ([.i .i64 x.id,.i .i64 x.account,.i .i64 x.kind,.i .i64 x.amount,.i .i64 x.from',.i .i64 x.to',.s x.source])
def cF.ok (x:cF):Prop:=bR x.id/\bR x.account/\bR x.kind/\bR x.amount/\bR x.from'/\bR x.to'/\x.source.length<=maxLen
@[simp] def cF.all_len (l:List cF):(aB cF.v l).all (fun x=>x.cells.length==7)=true:=mU fun _=>rfl
@[simp] def cF.len_all (l:List cF):(∀x∈aB cF.v l,x.cells.length=7)=True:=qB fun _=>rfl
def eK1 {n:Nat}{ys:List V}(h:cY Tryz.prog (n+2) 156 ys):∃x:cF,ys=x.cells/\x.ok:=by unfold cY at h;rw[Tryz.underlying156] at h;simp only[xA,xC] at h;obtain⟨a0,b0,rfl,h0,a1,b1,rfl,h1,a2,b2,rfl,h2,a3,b3,rfl,h3,a4,b4,rfl,h4,a5,b5,rfl,h5,a6,b6,rfl,h6,rfl⟩:=h;obtain⟨x0,rfl,o0⟩:=fX Tryz.underlying3 h0;obtain⟨x1,rfl,o1⟩:=fX Tryz.underlying3 h1;obtain⟨x2,rfl,o2⟩:=fX Tryz.underlying3 h2;obtain⟨x3,rfl,o3⟩:=fX Tryz.underlying3 h3;obtain⟨x4,rfl,o4⟩:=fX Tryz.underlying3 h4;obtain⟨x5,rfl,o5⟩:=fX Tryz.underlying3 h5;obtain⟨x6,rfl,o6⟩:=VM.fit_string Tryz.underlying9 h6;exact⟨⟨x0,x1,x2,x3,x4,x5,x6⟩,rfl,o0,o1,o2,o3,o4,o5,o6⟩
def eL3 {n:Nat}{ys:List V}(h:cY Tryz.prog (n+3) 22 ys):∃l:List gR,ys=[.l (aB gR.v l)]/\l.length<=maxLen/\∀y∈l,y.ok:=
 Cw Tryz.underlying22 (fun _ h=>EM (by kernel_rfl) (eJ5 h)) h
def eL2 {n:Nat}{ys:List V}(h:cY Tryz.prog (n+4) 23 ys):∃l:List iB,ys=[.l (aB iB.v l)]/\l.length<=maxLen/\∀y∈l,y.ok:=
 Cw Tryz.underlying23 (fun _ h=>EM (by kernel_rfl) (eJ2 h)) h
def eL1 {n:Nat}{ys:List V}(h:cY Tryz.prog (n+3) 24 ys):∃l:List Gl,ys=[.l (aB Gl.v l)]/\l.length<=maxLen/\∀y∈l,y.ok:=
 Cw Tryz.underlying24 (fun _ h=>EM (by kernel_rfl) (eJ6 h)) h
def eL0 {n:Nat}{ys:List V}(h:cY Tryz.prog (n+304) 27 ys):∃l:List dO,ys=[.l (aB dO.v l)]/\l.length<=maxLen/\∀y∈l,y.ok:=
 Cw Tryz.underlying27 (fun _ h=>EM (by kernel_rfl) (eK4 h)) h
def eK9 {n:Nat}{ys:List V}(h:cY Tryz.prog (n+3) 28 ys):∃l:List iN,ys=[.l (aB iN.v l)]/\l.length<=maxLen/\∀y∈l,y.ok:=
 Cw Tryz.underlying28 (fun _ h=>EM (by kernel_rfl) (eK3 h)) h
def bT4 {n:Nat}{ys:List V}(h:cY Tryz.prog (n+5) 29 ys):∃l:List aW,ys=[.l (aB aW.v l)]/\l.length<=maxLen/\∀y∈l,y.ok:=
 Cw Tryz.underlying29 (fun _ h=>EM (by kernel_rfl) (eJ4 h)) h
def eK8 {n:Nat}{ys:List V}(h:cY Tryz.prog (n+3) 30 ys):∃l:List fS,ys=[.l (aB fS.v l)]/\l.length<=maxLen/\∀y∈l,y.ok:=
 Cw Tryz.underlying30 (fun _ h=>EM (by kernel_rfl) (eK2 h)) h
def eK7 {n:Nat}{ys:List V}(h:cY Tryz.prog (n+3) 31 ys):∃l:List cF,ys=[.l (aB cF.v l)]/\l.length<=maxLen/\∀y∈l,y.ok:=
 Cw Tryz.underlying31 (fun _ h=>EM (by kernel_rfl) (eK1 h)) h
structure cD where
 currencies:List gR
 calendars:List iB
 chart:List Gl
 plan:nU
 products:List dO
 accounts:List iN
 journal:List aW
 holds:List fS
 blocks:List cF
abbrev cD.cells (x:cD):List V:=[.l (aB gR.v x.currencies),.l (aB iB.v x.calendars),.l (aB Gl.v x.chart),.i .i64 x.plan.cash,.i .i64 x.plan.deposits,.i .i64 x.plan.interestPaid,.i .i64 x.plan.interestEarned,.i .i64 x.plan.feeEarned,.i .i64 x.plan.tax,.i .i64 x.plan.clearing,.i .i64 x.plan.loans,.i .i64 x.plan.loanInterest,.i .i64 x.plan.penalty,.i .i64 x.plan.provision,.i .i64 x.plan.provisionCost,.i .i64 x.plan.loss,.i .i64 x.plan.recovery,.l (aB dO.v x.products),.l (aB iN.v x.accounts),.l (aB aW.v x.journal),.l (aB fS.v x.holds),.l (aB cF.v x.blocks)]
abbrev cD.v (x:cD):V:= .a ([.l (aB gR.v x.currencies),.l (aB iB.v x.calendars),.l (aB Gl.v x.chart),.i .i64 x.plan.cash,.i .i64 x.plan.deposits,.i .i64 x.plan.interestPaid,.i .i64 x.plan.interestEarned,.i .i64 x.plan.feeEarned,.i .i64 x.plan.tax,.i .i64 x.plan.clearing,.i .i64 x.plan.loans,.i .i64 x.plan.loanInterest,.i .i64 x.plan.penalty,.i .i64 x.plan.provision,.i .i64 x.plan.provisionCost,.i .i64 x.plan.loss,.i .i64 x.plan.recovery,.l (aB dO.v x.products),.l (aB iN.v x.accounts),.l (aB aW.v x.journal),.l (aB fS.v x.holds),.l (aB cF.v x.blocks)])
def cD.ok (x:cD):Prop:=(x.currencies.length<=maxLen/\∀y∈x.currencies,y.ok)/\(x.calendars.length<=maxLen/\∀y∈x.calendars,y.ok)/\(x.chart.length<=maxLen/\∀y∈x.chart,y.ok)/\x.plan.ok/\(x.products.length<=maxLen/\∀y∈x.products,y.ok)/\(x.accounts.length<=maxLen/\∀y∈x.accounts,y.ok)/\(x.journal.length<=maxLen/\∀y∈x.journal,y.ok)/\(x.holds.length<=maxLen/\∀y∈x.holds,y.ok)/\(x.blocks.length<=maxLen/\∀y∈x.blocks,y.ok)
@[simp] def cD.all_len (l:List cD):(aB cD.v l).all (fun x=>x.cells.length==22)=true:=mU fun _=>rfl
@[simp] def cD.len_all (l:List cD):(∀x∈aB cD.v l,x.cells.length=22)=True:=qB fun _=>rfl
def eJ7 {n:Nat}{ys:List V}(h:cY Tryz.prog (n+305) 33 ys):∃x:cD,ys=x.cells/\x.ok:=by unfold cY at h;rw[Tryz.underlying33] at h;simp only[xA,xC] at h;obtain⟨a0,b0,rfl,h0,a1,b1,rfl,h1,a2,b2,rfl,h2,a3,b3,rfl,h3,a4,b4,rfl,h4,a5,b5,rfl,h5,a6,b6,rfl,h6,a7,b7,rfl,h7,a8,b8,rfl,h8,rfl⟩:=h;obtain⟨x0,rfl,o0⟩:=eL3 h0;obtain⟨x1,rfl,o1⟩:=eL2 h1;obtain⟨x2,rfl,o2⟩:=eL1 h2;obtain⟨x3,rfl,o3⟩:=eJ8 h3;obtain⟨x4,rfl,o4⟩:=eL0 h4;obtain⟨x5,rfl,o5⟩:=eK9 h5;obtain⟨x6,rfl,o6⟩:=bT4 h6;obtain⟨x7,rfl,o7⟩:=eK8 h7;obtain⟨x8,rfl,o8⟩:=eK7 h8;exact⟨⟨x0,x1,x2,x3,x4,x5,x6,x7,x8⟩,rfl,o0,o1,o2,o3,o4,o5,o6,o7,o8⟩
structure kT where
 name:List UInt8
 sign:Int
 roots:List Int
 deriving DecidableEq
abbrev kT.cells (x:kT):List V:=[.s x.name,.i .i64 x.sign,.l (aB (V.i .i64) x.roots)]
abbrev kT.v (x:kT):V:= .a ([.s x.name,.i .i64 x.sign,.l (aB (V.i .i64) x.roots)])
def kT.ok (x:kT):Prop:=x.name.length<=maxLen/\bR x.sign/\(x.roots.length<=maxLen/\∀y∈x.roots,bR y)
@[simp] def kT.all_len (l:List kT):(aB kT.v l).all (fun x=>x.cells.length==3)=true:=mU fun _=>rfl
@[simp] def kT.len_all (l:List kT):(∀x∈aB kT.v l,x.cells.length=3)=True:=qB fun _=>rfl
def dL4 (ys:List V):Bi Tryz.prog 33 ys= .a ys:=bH5 (by kernel_rfl) ys
end Go.Proofs.YtdlpbedneamebaaGreatDoor
