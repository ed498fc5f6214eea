/-
A part of the proof of the last text.
-/
import Derived.Test.YtdlpbedneamebaaGreatDoorTU
import Derived.Test.YtdlpbedneamebaaGreatDoorTX
set_option linter.all false
namespace Go.Proofs.YtdlpbedneamebaaGreatDoor
open Go.RowKit Go.VM
def Xv (c:List UInt8):∀l:List bG,gL c (l.filter fun x=>x.amount !=0)=gL c l
 |[]=>rfl
 |x::l=>by
  by_cases h:x.amount=0;have e1:(x::l).filter (fun x=>x.amount !=0)=l.filter fun x=>x.amount !=0:=by simp[h]
  rw[e1,Xv c l];simp[gL,h];have e1:(x::l).filter (fun x=>x.amount !=0)=x::l.filter fun x=>x.amount !=0:=by simp[h]
  rw[e1,gL,gL,Xv c l]
def cO8 (c:List UInt8){l k:List bG}(h:l.Perm k):gL c l=gL c k:=by induction h with|nil=>rfl|cons x _ ih=>rw[gL,gL,ih]|swap x y l=>simp only[gL];omega|trans _ _ h1 h2=>exact h1.trans h2
def cD2 (c:List UInt8)(x:bG):∀s:List bG,wrap64 (gL c (vL s x))=wrap64 (gL c s+(if x.currency=c then x.amount else 0))
 |[]=>by simp only[vL,gL];split;unfold wrap64;omega;rfl|z::r=>by unfold vL;split;rename_i h;simp only[gL];rw[h.2];split;unfold wrap64;omega;congr 1;omega;have ih:=cD2 c x r;simp only[gL];generalize gL c (vL r x)=p at ih⊢;generalize gL c r=q at ih⊢;unfold wrap64 at ih⊢;omega
def cC9 (c:List UInt8):∀(xs s:List bG),wrap64 (gL c (xs.foldl vL s))=wrap64 (gL c s+gL c xs)
 |[],s=>by simp[gL]|x::xs,s=>by rw[uO,cC9 c xs];have h:=cD2 c x s;rw[gL];generalize gL c (vL s x)=p at h⊢;generalize gL c s=q at h⊢;unfold wrap64 at h⊢;omega
def aZ3 (c:List UInt8):∀(j:List aW) (s:List bG),(∀e∈j,EU e.legs)->wrap64 (gL c (j.foldl (fun s e=>e.legs.foldl vL s) s))=wrap64 (gL c s)
 |[],_,_=>rfl|e::j,s,h=>by rw[uO,aZ3 c j _ fun x hx=>h x (dL _ hx),cC9];have hf:=h e (dC ..) c;rw[oV] at hf;generalize gL c e.legs=p at hf⊢;generalize gL c s=q;unfold wrap64;omega
def cO1 {j:List aW}(h:∀e∈j,EU e.legs):EU (Bg j):=fun c=>by
 unfold Bg;rw[cO8 c (RP _),Xv];have:=aZ3 c j [] h;unfold Qo;have e:∀n:Int,IntKind.i64.wrap n=wrap64 n:=fun n=>by rw[oV];unfold wrap64;rfl
 rw[e,this,gL];unfold wrap64;decide
def fC9 (s:List bG)(x:bG):(vL s x).length<=s.length+1:=by induction s with|nil=>simp[vL]|cons y r ih=>unfold vL;split;simp;simp only[fY];omega
def cD0:∀(xs s:List bG),(xs.foldl vL s).length<=s.length+xs.length
 |[],s=>by simp|x::xs,s=>by rw[uO];have h1:=cD0 xs (vL s x);have h2:=fC9 s x;simp only[fY];omega
def cN9 {j:List aW}(h:∀e∈j,e.legs.length<=12):(Bg j).length<=j.length*12:=by
 have key:∀(j:List aW) (s:List bG),(∀e∈j,e.legs.length<=12)->(j.foldl (fun s e=>e.legs.foldl vL s) s).length<=s.length+j.length*12:=by intro j;induction j with|nil=>intro s _;simp|cons e j ih=>intro s h;rw[uO];have h1:=ih (e.legs.foldl vL s) fun x hx=>h x (dL _ hx);have h2:=cD0 e.legs s;have h3:=h e (dC ..);simp only[fY];omega
 unfold Bg;rw[(RP _).length_eq];have h1:=LG (fun x:bG=>x.amount !=0) (Qo j);have h2:=key j [] h;unfold Qo at h1⊢;simp only[vR] at h2;omega
end Go.Proofs.YtdlpbedneamebaaGreatDoor
