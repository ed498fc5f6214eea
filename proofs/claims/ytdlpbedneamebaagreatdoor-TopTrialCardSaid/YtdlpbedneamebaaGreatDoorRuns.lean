/-
A part of the proof of the last text.
-/
import Derived.Test.YtdlpbedneamebaaGreatDoorVK
set_option linter.all false
namespace Go.VM
def AD (e:Nat)(es xs:List V):Option (List V):=match xs with|[.i .i64 i,.ow e' [p]]=>if e'=e/\0<=i/\i.toNat<=es.length/\es.length<=1000000 then some (es.take i.toNat++p::es.drop i.toNat) else none|_=>none
structure Lg where
 acc:Int
 amt:Int
 cur:List UInt8
 deriving DecidableEq
abbrev Lg.cells (x:Lg):List V:=[.i .i64 x.acc,.i .i64 x.amt,.s x.cur]
abbrev Lg.v (x:Lg):V:= .a [.i .i64 x.acc,.i .i64 x.amt,.s x.cur]
@[simp] def Lg.all_len (l:List Lg):(aB Lg.v l).all (fun x=>x.cells.length==3)=true:=mU fun _=>rfl
@[simp] def Lg.len_all (l:List Lg):(∀x∈aB Lg.v l,x.cells.length=3)=True:=qB fun _=>rfl
def Lg.lt (x y:Lg):Prop:=x.acc<y.acc\/(x.acc=y.acc/\x.cur<y.cur)
instance (x y:Lg):Decidable (x.lt y):=inferInstanceAs (Decidable (_\/_))
def Lg.same (x y:Lg):Prop:=x.acc=y.acc/\x.cur=y.cur
instance (x y:Lg):Decidable (x.same y):=inferInstanceAs (Decidable (_/\_))
def cA0 {a b c:List UInt8}(h1:a<b)(h2:b<c):a<c:=List.lt_trans h1 h2
def aP0 (a:List UInt8):¬a<a:=Tw a
def ZK {a b:List UInt8}(h1:¬a<b)(h2:¬b<a):a=b:=List.le_antisymm (List.not_lt.1 h2) (List.not_lt.1 h1)
def Lg.lt_trans {x y z:Lg}(h1:x.lt y)(h2:y.lt z):x.lt z:=by rcases h1 with h1|⟨h1,jI⟩<;>rcases h2 with h2|⟨h2,jT⟩;exact .inl (by omega);exact .inl (by omega);exact .inl (by omega);exact .inr ⟨by omega,cA0 jI jT⟩
def Lg.lt_irrefl (x:Lg):¬x.lt x:=by rintro(h|⟨_,h⟩);omega;exact aP0 _ h
def Lg.tri {x y:Lg}(h1:¬x.lt y)(h2:¬y.lt x):x.same y:=by
 have e:x.acc=y.acc:=by have a1:¬x.acc<y.acc:=fun h=>h1 (.inl h);have a2:¬y.acc<x.acc:=fun h=>h2 (.inl h);omega
 exact⟨e,ZK (fun h=>h1 (.inr ⟨e,h⟩)) fun h=>h2 (.inr ⟨e.symm,h⟩)⟩
def Lg.lt_same {x y z:Lg}(h1:x.lt y)(h2:y.same z):x.lt z:=by obtain⟨a,c⟩:=h2;unfold Lg.lt at h1⊢;rw[<-a,<-c];exact h1
def Lg.same_lt {x y z:Lg}(h1:x.same y)(h2:y.lt z):x.lt z:=by obtain⟨a,c⟩:=h1;unfold Lg.lt at h2⊢;rw[a,c];exact h2
def HI (a b:Lg):Int:=if a.lt b then -1 else if b.lt a then 1 else 0
def bX8 {a b:Lg}:HI a b<0↔a.lt b:=by unfold HI;split;rename_i h;exact⟨fun _=>h,fun _=>by omega⟩;rename_i h;split;exact⟨fun h=>by omega,fun h'=>absurd h' h⟩;exact⟨fun h=>by omega,fun h'=>absurd h' h⟩
def eV7 {a b:Lg}:HI a b=0↔a.same b:=by unfold HI;split;rename_i h;refine⟨fun h=>by omega,fun hs=>absurd (Lg.lt_same h ⟨hs.1.symm,hs.2.symm⟩) (Lg.lt_irrefl _)⟩;rename_i h;split;rename_i h';exact⟨fun h=>by omega,fun hs=>absurd (Lg.lt_same h' hs) (Lg.lt_irrefl _)⟩;rename_i h';exact⟨fun _=>Lg.tri h h',fun _=>rfl⟩
def gA (L:List Lg)(x:Lg):Nat:=(L.takeWhile fun y=>decide (y.lt x)).length
def yP (L:List Lg):Prop:=L.Pairwise Lg.lt
def Zl (L:List Lg)(x:Lg):gA L x<=L.length:=by unfold gA;exact(List.takeWhile_prefix _).length_le
def bN3 {L:List Lg}{x:Lg}:∀{i:Nat} (hi:i<L.length),i<gA L x->L[i].lt x:=by
 unfold gA;induction L with
 |nil=>intro i hi;simp at hi
 |cons y L ih=>
  intro i hi h;rw[UA] at h;split at h;rename_i hy
  match i,hi,h with|0,_,_=>simpa using hy|i+1,hi,h=>simp only[fY,Nat.add_lt_add_iff_right] at hi h;simpa using ih hi h
  simp at h
def Zm {L:List Lg}{x:Lg}(h:gA L x<L.length):¬(L[gA L x]).lt x:=by unfold gA at h⊢;induction L with|nil=>simp at h|cons y L ih=>by_cases hy:y.lt x;simp only[UA,hy,decide_true,jA,fY,Nat.add_lt_add_iff_right] at h;have:=ih h;simpa[UA,hy] using this;simpa[UA,hy] using hy
def dY8 {L:List Lg}(hs:yP L){x:Lg}{i:Nat}(hi:i<L.length)(h:gA L x<=i):¬(L[i]).lt x:=by
 intro hx;rcases JN (gA L x) i with bE|FY;have hl:gA L x<L.length:=by omega
 exact Zm hl (Lg.lt_trans (Ty.1 hs _ _ hl hi bE) hx);obtain rfl:i=gA L x:=by omega
 exact Zm hi hx
def bN4 {L:List Lg}(hs:yP L){x:Lg}{i:Nat}(hi:i<L.length):L[i].lt x↔i<gA L x:=
 ⟨fun h=>by
  rcases JN i (gA L x) with h1|h1;exact h1;exact absurd h (dY8 hs hi h1),bN3 hi⟩
def tE (L:List Lg)(x:Lg):List Lg:=match L[gA L x]? with|some y=>if y.same x then L.set (gA L x) ⟨y.acc,IntKind.i64.wrap (y.amt+x.amt),y.cur⟩ else L.take (gA L x)++x::L.drop (gA L x)|none=>L.take (gA L x)++x::L.drop (gA L x)
def eU5 (L:List Lg)(x:Lg):(tE L x).length<=L.length+1:=by have h:=Zl L x;unfold tE;split;split;simp;simp only[kH,gO,fY,oW];omega;simp only[kH,gO,fY,oW];omega
def bP7 {L:List Lg}(hs:yP L){x:Lg}(h:∀y,L[gA L x]? =some y->¬y.same x):yP (L.take (gA L x)++x::L.drop (gA L x)):=by
 unfold yP;rw[QJ];have FY:∀y∈L.drop (gA L x),x.lt y:=fun y hy=>by
  obtain⟨j,hj,rfl⟩:=lH hy;rw[List.getElem_drop];rw[oW] at hj;have h1:gA L x<L.length:=by omega
  have h0:x.lt (L[gA L x]):=by have hn:=h _ (eI h1);have hnl:=Zm h1;exact Classical.byContradiction fun hc=>hn (Lg.tri hnl hc)
  match j with|0=>exact h0|j+1=>exact Lg.lt_trans h0 (Ty.1 hs _ _ h1 (by omega) (by omega))
 refine⟨List.Pairwise.sublist (List.take_sublist _ _) hs,vT.2 ⟨FY,List.Pairwise.sublist (List.drop_sublist _ _) hs⟩,fun a ha b hb=> ?_⟩;have hax:a.lt x:=by obtain⟨j,hj,rfl⟩:=lH ha;rw[Tv];rw[gO] at hj;exact bN3 (by omega) (by omega)
 rcases eP.1 hb with rfl|hb;exact hax;exact Lg.lt_trans hax (FY b hb)
def dD6 {L:List Lg}(hs:yP L){i:Nat}{y z:Lg}(hy:L[i]? =some y)(hz:z.same y):yP (L.set i z):=by
 unfold yP at hs⊢;rw[Ty] at hs⊢;have key:∀j (hj:j<L.length),((L.set i z)[j]'(by simpa using hj)).same L[j]:=fun j hj=>by rw[List.getElem_set];split;rename_i h;subst h;rw[eI hj] at hy;cases hy;exact hz;exact⟨rfl,rfl⟩
 intro a b ha hb fW;rw[QG] at ha hb;have h1:=key a ha;have h2:=key b hb;exact Lg.lt_same (Lg.same_lt h1 (hs a b ha hb fW)) ⟨h2.1.symm,h2.2.symm⟩
def eU3 {L:List Lg}(hs:yP L)(x:Lg):yP (tE L x):=by
 unfold tE;split;rename_i y hy;split;exact dD6 hs hy ⟨rfl,rfl⟩;rename_i hn;exact bP7 hs fun z hz=>by rw[hy] at hz;cases hz;exact hn
 rename_i hy;exact bP7 hs fun z hz=>by rw[hy] at hz;cases hz
def yJ (l:List Lg):List Lg:=l.foldl tE []
def aB5:∀(l:List Lg) (L:List Lg),yP L->yP (l.foldl tE L)
 |[],_,h=>h|x::l,L,h=>aB5 l _ (eU3 h x)
def Vm:∀(l:List Lg) (L:List Lg),(l.foldl tE L).length<=L.length+l.length
 |[],L=>by simp|x::l,L=>by have h1:=Vm l (tE L x);have h2:=eU5 L x;simp only[uO,fY];omega
def Ly:List V->Option (List Lg)
 |[]=>some []| .a [.i .i64 a,.i .i64 n,.s c]::r=>(Ly r).map (⟨a,n,c⟩::·)|_=>none
def Zf:∀{es:List V} {l:List Lg},Ly es=some l->es=aB Lg.v l
 |[],l,h=>by cases h;rfl|x::r,l,h=>by unfold Ly at h;split at h;rename_i he;cases he;rename_i a n c r' he;cases he;simp only[gY] at h;obtain⟨t,h1,rfl⟩:=h;rw[Zf h1];rfl;cases h
def Zg:∀l:List Lg,Ly (aB Lg.v l)=some l
 |[]=>rfl|x::l=>by have:=Zg l;simp only[aB,fF] at this⊢;simp[Ly,this]
def M5 (es xs:List V):Option (List V):=match es,xs with|[],[.l ls]=>(Ly ls).bind fun l=>if l.length<=1000 then some (aB Lg.v (yJ l)) else none|_,_=>none
def M1 (f:Nat)(es xs:List V):Option (List V):=match xs with|[.f (.func g) [] []]=>if g=f then(Ly es).bind fun l=>if l.length<=1000 then some (aB Lg.v (l.filter fun y=>decide (y.amt≠0))) else none else none|_=>none
end Go.VM
