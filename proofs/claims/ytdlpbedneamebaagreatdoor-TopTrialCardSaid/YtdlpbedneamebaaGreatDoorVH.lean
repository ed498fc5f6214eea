/-
The evaluator and its soundness: part of the proof of the last text.
-/
import Derived.Test.YtdlpbedneamebaaGreatDoorVF
import Derived.Test.YtdlpbedneamebaaGreatDoorVG
set_option linter.all false
namespace Go.VM
def eD5 (kin:List Nat)(aA:aG):keepE kin (keepE kin aA)=keepE kin aA:=by simp[keepE,List.filter_filter]
noncomputable def bP (o:aU)(kin:List Nat)(c:C)(aA:aG):Option (Ex×aG):=C9 o kin c aA
def bA (o:aU)(aA:aG)(kin:List Nat)(c:C):bI o (.loop kin c) aA=bP o kin c (keepE kin aA):=by rw[eP4,bP,Bl,Bl,eD5]
@[simp] def ZI (o:aU)(k:Nat)(es:List V)(kk:IntKind)(i:Nat):aS o (.ix k) [.l es,.i kk (i:Int)]=(es[i]?).bind fun e=>if e.cells.length=k then some (.r e.cells) else none:=by rw[VV,aY (XZ i),LD]
@[simp] def bH9 (o:aU)(s:List UInt8)(kk:IntKind)(i:Nat):aS o .idx [.s s,.i kk (i:Int)]=(s[i]?).map fun c=> .i .u8 c.toNat:=by rw[IM,aY (XZ i),LD]
@[simp] def fU9 (i:Nat):((i:Int)<0)=False:=by simp only[eq_iff_iff,iff_false];omega
section
variable (x:Bool) (k:IntKind) (n m:Nat) (i:Int) (s:List UInt8) (es fs:List V) (fn:Fn)
@[simp] def gO1:V.cell (.b x)=true:=rfl
@[simp] def gN8:V.cell (.i k i)=true:=rfl
@[simp] def gN1:V.cell (.s s)=true:=rfl
@[simp] def gN7:V.cell (.l es)=true:=rfl
@[simp] def gN2:V.cell (.r es)=true:=rfl
@[simp] def gN9:V.cell (.f fn es fs)=true:=rfl
@[simp] def gN5:V.cell .nf=true:=rfl
@[simp] def gN4:V.cell .np=true:=rfl
@[simp] def gO3:V.cell (.a es)=false:=rfl
@[simp] def gN0:V.cell (.t es)=false:=rfl
@[simp] def gN3:V.cell (.ow n es)=false:=rfl
@[simp] def gO0:V.cell (.bx es)=false:=rfl
@[simp] def gO2:V.cell (.al n)=false:=rfl
end
attribute [simp] mB C2
attribute [simp] KX Jl Fi Ep HA iK MY Og OW Vy MC Ot sV oA fH lJ eJ0 On Ez Ju
attribute [simp] jU.loads V.flats V.flat nM bS eC dK freeze freeze1 wG owner hand rC V.names V.isOwn Oe Al
end Go.VM
namespace Go.VM
def fit_string {P:Program}{n:Nat}{t:TypeId}{ys:List V}(hu:P.underlying t=some .string)(h:cY P (n+1) t ys):∃s,ys=[.s s]/\s.length<=maxLen:=by unfold cY at h;rw[hu] at h;exact h
def bT2 {P:Program}{n:Nat}{t:TypeId}{ys:List V}(hu:P.underlying t=some .bool)(h:cY P (n+1) t ys):∃b,ys=[.b b]:=by unfold cY at h;rw[hu] at h;exact h
def bT0 {P:Program}{n:Nat}{t:TypeId}{ys:List V}{k:IntKind}(hu:P.underlying t=some (.int k))(h:cY P (n+1) t ys):∃m,ys=[.i k m]/\(Lit.int k m).wf=true:=by unfold cY at h;rw[hu] at h;exact h
abbrev bR (m:Int):Prop:= -9223372036854775808<=m/\m<=9223372036854775807
def fX {P:Program}{n:Nat}{t:TypeId}{ys:List V}(hu:P.underlying t=some (.int .i64))(h:cY P (n+1) t ys):∃m,ys=[.i .i64 m]/\bR m:=by obtain⟨m,rfl,hm⟩:=bT0 hu h;refine⟨m,rfl,?_⟩;simp only[Lit.wf,fA,uS] at hm;exact hm
def aB6 {P:Program}{n:Nat}{t e:TypeId}{ys:List V}(hu:P.underlying t=some (.slice e))(h:cY P (n+1) t ys):∃es:List V,ys=[.l es]/\es.length<=maxLen/\∀y∈es,∃ys,cY P n e ys/\y=(if eJ P e then .a ys else ys.headD .ud):=by unfold cY at h;rw[hu] at h;exact h
def bH4 {P:Program}{t:TypeId}(h:eJ P t=false)(y:V):Bi P t [y]=y:=by unfold Bi;rw[h];rfl
def bH5 {P:Program}{t:TypeId}(h:eJ P t=true)(ys:List V):Bi P t ys= .a ys:=by unfold Bi;rw[h];rfl
def Y8:∀(x y:List UInt8),Op.bytesLess x y=true↔x<y
 |[],[]=>by simp[Op.bytesLess]|_::_,[]=>by simp[Op.bytesLess]|[],_::_=>by simp[Op.bytesLess]|a::x,b::y=>by have ih:=Y8 x y;simp only[Op.bytesLess,tK,fA,uS,pM,List.cons_lt_cons_iff,ih]
def X6 (x y:List UInt8):Op.bytesLess x y=decide (x<y):=by rw[LA,Y8];simp
def aB {α:Type}(f:α->V)(l:List α):List V:=l.map f
section
variable {α:Type} {f:α->V} {l:List α}
@[simp] def eQ0:aB f []=[]:=rfl
def BI (x:α):aB f (x::l)=f x::aB f l:=rfl
@[simp] def uJ:(aB f l).length=l.length:=by simp[aB]
@[simp] def gJ1 (i:Nat):(aB f l)[i]? =l[i]?.map f:=by simp[aB]
@[simp] def gJ5 (i:Nat)(h:i<(aB f l).length):(aB f l)[i]=f (l[i]'(by simpa using h)):=by simp[aB]
def aC5 (i:Nat)(x:α):aB f (l.set i x)=(aB f l).set i (f x):=by simp[aB,QH]
def mU {p:V->Bool}(h:∀x,p (f x)=true):(aB f l).all p=true:=by simp[aB,h]
def qB {k:Nat}(h:∀x,(f x).cells.length=k):(∀x∈aB f l,x.cells.length=k)=True:=by simp only[eq_iff_iff,iff_true];intro y hy;obtain⟨x,_,rfl⟩:=jL.1 hy;exact h x
def bV5 (h:∀x,(f x).flat=true):V.flats (aB f l)=true:=(V.flats_iff _).2 fun y hy=>by obtain⟨x,_,rfl⟩:=jL.1 hy;exact h x
@[simp] def gJ2 (l:List (List UInt8)):V.flats (aB V.s l)=true:=bV5 fun _=>by simp
@[simp] def gJ8 (k:IntKind)(l:List Int):(aB (V.i k) l).all (fun x=>x.cells.length==1)=true:=mU fun _=>rfl
@[simp] def gJ7 (l:List (List UInt8)):(aB V.s l).all (fun x=>x.cells.length==1)=true:=mU fun _=>rfl
@[simp] def gI9 (k:IntKind)(l:List Int):(∀x∈aB (V.i k) l,x.cells.length=1)=True:=qB fun _=>rfl
@[simp] def gI8 (l:List (List UInt8)):(∀x∈aB V.s l,x.cells.length=1)=True:=qB fun _=>rfl
@[simp] def gJ0:(aB f l).isEmpty=l.isEmpty:=by simp[aB]
end
def eJ1 {P:Program}{α:Type}{f:α->V}{q:α->Prop}{e:TypeId}(h:eJ P e=false){ys:List V}(hx:∃x,ys=[f x]/\q x):∃x,(if eJ P e then V.a ys else ys.headD .ud)=f x/\q x:=by obtain⟨x,rfl,hq⟩:=hx;exact⟨x,by rw[h];rfl,hq⟩
def EM {P:Program}{α:Type}{c:α->List V}{q:α->Prop}{e:TypeId}(h:eJ P e=true){ys:List V}(hx:∃x,ys=c x/\q x):∃x,(if eJ P e then V.a ys else ys.headD .ud)=V.a (c x)/\q x:=by obtain⟨x,rfl,hq⟩:=hx;exact⟨x,by rw[h];rfl,hq⟩
def Cw {P:Program}{n:Nat}{t e:TypeId}{α:Type}{f:α->V}{q:α->Prop}(hu:P.underlying t=some (.slice e))(he:∀ys,cY P n e ys->∃x,(if eJ P e then V.a ys else ys.headD .ud)=f x/\q x){ys:List V}(h:cY P (n+1) t ys):
  ∃l:List α,ys=[.l (aB f l)]/\l.length<=maxLen/\∀x∈l,q x:=by
 obtain⟨es,rfl,hl,yD⟩:=aB6 hu h;have key:∀es:List V,(∀y∈es,∃ys,cY P n e ys/\y=(if eJ P e then .a ys else ys.headD .ud))->∃l:List α,es=aB f l/\∀x∈l,q x:=by intro es;induction es with|nil=>intro _;exact⟨[],rfl,by simp⟩|cons y es ih=>intro yD;obtain⟨ys,hf,rfl⟩:=yD y (dC ..);obtain⟨x,hx,hq⟩:=he ys hf;obtain⟨l,rfl,hl⟩:=ih fun z hz=>yD z (dL _ hz);refine⟨x::l,by rw[hx];rfl,fun z hz=> ?_⟩;rcases eP.1 hz with rfl|hz;exact hq;exact hl z hz
 obtain⟨l,rfl,hq⟩:=key es yD;exact⟨l,rfl,by simpa using hl,hq⟩
end Go.VM
namespace Go.VM
def kE (kin:List Nat)(r:Option (Ex×aG)):Option (Ex×aG):=r.map fun p=>match p.1 with| .n=>(.n,keepE kin p.2)|e=>(e,p.2)
section
variable {o:aU} {kin:List Nat} {c:C} {aA:aG}
@[simp] def gA1:kE kin none=none:=rfl
@[simp] def bO1:kE kin (some (.n,aA))=some (.n,keepE kin aA):=rfl
@[simp] def eD7 (id:Nat):kE kin (some (.e id,aA))=some (.e id,aA):=rfl
@[simp] def eD6:kE kin (some (.r,aA))=some (.r,aA):=rfl
@[simp] def gA2 (p:Prop)[Decidable p](x y:Option (Ex×aG)):kE kin (if p then x else y)=if p then kE kin x else kE kin y:=by split<;>rfl
def Zn {r:Option (Ex×aG)}{e:Ex}{g:aG}(h:kE kin r=some (e,g)):(e= .n/\∃g',r=some (.n,g')/\keepE kin g'=g)\/(e≠ .n/\r=some (e,g)):=by
 cases r with
 |none=>cases h
 |some p=>
  obtain⟨e',g'⟩:=p;cases e' with
  |n=>simp only[bO1,aH,cM] at h;exact .inl ⟨h.1.symm,g',rfl,h.2⟩|e id=>simp only[eD7,aH,cM] at h;obtain⟨rfl,rfl⟩:=h;exact .inr ⟨by simp,rfl⟩
  |r=>simp only[eD6,aH,cM] at h;obtain⟨rfl,rfl⟩:=h;exact .inr ⟨by simp,rfl⟩
def oM {α β:Type}(E:α->β)(N:β):Option α->β
 |some a=>E a|none=>N
@[simp] def fP8 {α β:Type}(E:α->β)(N:β)(a:α):oM E N (some a)=E a:=rfl
@[simp] def fP9 {α β:Type}(E:α->β)(N:β):oM E N none=N:=rfl
@[simp] def fQ0 {α β:Type}(E:α->β)(N:β)(p:Prop)[Decidable p](x y:Option α):oM E N (if p then x else y)=if p then oM E N x else oM E N y:=by split<;>rfl
@[simp] def fH0 (p:Prop)[Decidable p](x y:Ex×aG):some (if p then x else y)=if p then some x else some y:=by split<;>rfl
def wK {α:Type}(F:Nat->aG)(n:Nat)(cd:Nat->Option α)(E:α->Ex×aG)(X:Ex×aG)(hF:∀i,keepE kin (F i)=F i)(hE:∀a,(E a).1≠ .n)
  (h1:∀i,i<n->kE kin (bI o c (F i))=some (oM E (.n,F (i+1)) (cd i)))(hX:bI o c (F n)=some X)(EJ:X.1≠ .n):
  bP o kin c (F 0)=some (oM E X ((List.range n).findSome? cd)):=by
 have key:∀(m i:Nat),i+m=n->bP o kin c (F i)=some (oM E X ((List.range' i m).findSome? cd)):=by
  intro m;induction m with
  |zero=>
   intro i hi;have:i=n:=by omega
   subst this;rw[bP,Bl,hF,hX];obtain⟨e,aA⟩:=X;cases e with|n=>exact absurd rfl EJ|e id=>rfl|r=>rfl
  |succ m ih=>
   intro i hi;have h:=h1 i (by omega);rw[bP,Bl,hF,GP,X3];cases hc:cd i with
   |none=>rw[hc] at h;rcases Zn h with⟨_,g,hg,hk⟩|⟨hn,_⟩;rw[hg,Y4];simp only;have:=ih (i+1) (by omega);rw[bP] at this;rw[<-this,Bl,Bl,hk,hF];exact absurd rfl hn
   |some a=>rw[hc] at h;simp only[oM] at h;have hEa:=hE a;generalize hEe:E a=r at h hEa;obtain⟨e,g⟩:=r;rcases Zn h with⟨he,_⟩|⟨_,hr⟩;exact absurd he hEa;rw[hr];cases e with|n=>exact absurd rfl hEa|e id=>simp[oM,hEe]|r=>simp[oM,hEe]
 have:=key n 0 (by omega);rw[this,EY]
def V4 (F:Nat->aG)(n:Nat)(X:Ex×aG)(hF:∀i,keepE kin (F i)=F i)(h1:∀i,i<n->kE kin (bI o c (F i))=some (.n,F (i+1)))(hX:bI o c (F n)=some X)(EJ:X.1≠ .n):bP o kin c (F 0)=some X:=by
 have:=wK (o:=o) (c:=c) F n (fun _=>(none:Option Unit)) (fun _=>X) X hF (fun _=>EJ) (fun i hi=>by simpa using h1 i hi) hX EJ;rw[this];have:(List.range n).findSome? (fun _=>(none:Option Unit))=none:=by simp
 rw[this];rfl
end
def Gf {n:Nat}{α:Type}{cd:Nat->Option α}:(List.range n).findSome? cd=none↔∀i,i<n->cd i=none:=by simp[List.findSome?_eq_none_iff]
@[simp] def fS9 (o:aU)(s:List UInt8)(kk:IntKind):aS o .idx [.s s,.i kk 0]=(s[0]?).map fun c=> .i .u8 c.toNat:=bH9 o s kk 0
@[simp] def fS7 (o:aU)(k:Nat)(es:List V)(kk:IntKind):aS o (.ix k) [.l es,.i kk 0]=(es[0]?).bind fun e=>if e.cells.length=k then some (.r e.cells) else none:=ZI o k es kk 0
@[simp] def fS8 (o:aU)(s:List UInt8)(kk:IntKind)(i:Nat):aS o .idx [.s s,.i kk ((i:Int)+1)]=(s[i+1]?).map fun c=> .i .u8 c.toNat:=bH9 o s kk (i+1)
@[simp] def fR8 (o:aU)(k:IntKind)(a b:Int):aS o .mx [.i k a,.i k b]=some (.i k (if b>a then b else a)):=by simp[aS,Ey,Ok]
@[simp] def fS0 (o:aU)(k:IntKind)(a b:Int):aS o .mn [.i k a,.i k b]=some (.i k (if b<a then b else a)):=by simp[aS,Ew,Oh]
end Go.VM
namespace Go.VM
variable [cB]
def run {bJ:Nat->Option aQ}{ext:aU}{f:Nat}{fc:aQ}(ht:bJ f=some fc){args:List V}{y:V}(hl:args.length=fc.np)(ha:args.all V.arg=true)(h:wH fc.res (bI (nE bJ ext) fc.body (kR 0 args))=some y):nE bJ ext f args=some y:=
 bW6 ht ((bZ6 _ _ _ hl ha).trans h)
def Ms (e k b:Nat):List V->Option V
 |[.l es]=>if es.all (fun x=>x.cells.length==k)=true/\es.length*b<=140737488355328 then some (.ow e es) else none|_=>none
@[simp] def bX9 {α:Type}{g:α->V}{e k b:Nat}{l:List α}(h:(aB g l).all (fun x=>x.cells.length==k)=true)(hl:l.length*b<=140737488355328):Ms e k b [.l (aB g l)]=some (.ow e (aB g l)):=by show(if(aB g l).all (fun x=>x.cells.length==k)=true/\(aB g l).length*b<=140737488355328 then some (V.ow e (aB g l)) else none)=_;rw[aY ⟨h,by simpa using hl⟩]
def eW4 {P:Program}(hM:Ko P){f:FuncId}{fn:Func}{t tb e:TypeId}{p1 p2 p3 p4 p5:Array Edge}(hf:P.funcs[f]? =some fn)(cR:jG P f=true)(wT:fn.body=some (aO0 t tb p1 p2 p3 p4 p5))(eA:fn.results= #[.tmp 2])(lA:fn.ntmps=8)
  {k b:Nat}{zc:List V}(iR:CG P t=some e)(uC:AS P t=some k)(AL:KV P t=some b)(hz:sK P e=some zc)(fN:0<k/\0<b/\zc.length=k)(xs:List V)(y:V)(h:Ms e k b xs=some y):jG P f=true/\PF P f xs y:=by
 unfold Ms at h;split at h;rename_i es;split at h;rename_i hc;cases h;exact⟨cR,eW3 hM hf wT eA lA iR uC AL hz fN (fun x hx=>by simpa using eM.1 hc.1 x hx) hc.2⟩;cases h;cases h
def PF.frz {P:Program}{f:FuncId}{xs:List V}{e:Nat}{es:List V}(h:PF P f xs (.ow e es)):PF P f xs (.l es):=by intro S w vs hS hG hr;refine(h S w vs hS hG hr).mono fun r w' ⟨v,he,hb,S',zJ,qR,eA⟩=>⟨v,he,hb,fun b=>(S b\/w.heap.size<=b)/\b<w'.heap.size,fun b fD=>qR b (zJ b fD),fun b fD=>fD,?_⟩;exact eA.frzt (fun b fD=>qR b fD) fun b h1 h2=>⟨.inr h1,h2⟩
def WU (e k b:Nat)(xs:List V):Option V:=(Ms e k b xs).map frz
@[simp] def gM2 {α:Type}{g:α->V}{e k b:Nat}{l:List α}(h:(aB g l).all (fun x=>x.cells.length==k)=true)(hl:l.length*b<=140737488355328):WU e k b [.l (aB g l)]=some (.l (aB g l)):=by rw[WU,bX9 h hl];rfl
def eF9 {W:World}{g:Nat}{k:IntKind}{zs:List Int}(h0:0<zs.length)(h:∀i,i<zs.length->W.cell? ⟨g,i,none⟩=some (.int k (zs.getD i 0))):aP (dS W) W (.pointer (some ⟨g,0,none⟩)) (.r (zs.map (V.i k))):=by
 have hadd:∀j,(⟨g,0,none⟩:Addr).add j=⟨g,j,none⟩:=fun j=>by unfold Addr.add;split;rename_i hj;subst hj;rfl;simp
 refine .r _ _ (zs.map (Value.int k)) ?_ ?_ (by simp) (fun j u hj=> ?_) (fun j u x hj hx=> ?_);have:=h 0 h0;unfold World.cell? at this;cases hh:W.heap[g]? with|none=>simp[hh] at this|some o=>exact(j6.1 hh).1
 intro x hx;obtain⟨n,_,rfl⟩:=jL.1 hx;rfl;rw[kG] at hj;cases hz:zs[j]? with|none=>rw[hz] at hj;cases hj|some n=>rw[hz] at hj;cases hj;rw[hadd,h j (fE.1 hz).1,EX,hz];rfl
 rw[kG] at hj hx;cases hz:zs[j]? with|none=>rw[hz] at hj;cases hj|some n=>rw[hz] at hj hx;cases hj;cases hx;exact .i k n
abbrev IA (l:List (List UInt8)):List V:=l.map V.s
@[simp] def fH1 (l:List (List UInt8)):(IA l).all (iA 1)=true:=by induction l with|nil=>rfl|cons x l ih=>simp only[IA,fF,HX,iA,QB];exact ih
abbrev cp1:Array Edge:= #[⟨0,.data⟩]
abbrev cp4:Array Edge:= #[⟨0,.data⟩,⟨1,.data⟩]
abbrev cp5:Array Edge:= #[⟨2,.data⟩,⟨2,.chain⟩,⟨0,.phase⟩,⟨1,.phase⟩,⟨2,.phase⟩]
end Go.VM
namespace Go.VM
open Go.RowKit
variable [cB]
section
variable {P:Program} {nt:Nat} {keep:List Nat} {S:Nat->Prop} {aD:Nat} {w0:World} {o:aU} {w:World}
def Zz {α:Type}:∀(n:Nat) (x:α) (l:List α),(lC n x l).length=l.length+1
 |0,_,_=>rfl|n+1,x,[]=>rfl|n+1,x,y::l=>by simp only[lC,fY,Zz n x l]
def bQ0 {α β:Type}{R:α->β->Prop}:∀(n:Nat) (u:α) (x:β) (us:List α) (xs:List β),us.length=xs.length->(∀(j:Nat) v y,us[j]? =some v->xs[j]? =some y->R v y)->
  ∀(k:Nat) y,(lC n x xs)[k]? =some y->∃v,(lC n u us)[k]? =some v/\((k=min n us.length/\y=x/\v=u)\/(k≠min n us.length/\R v y))
 |0,u,x,us,xs,hl,h,k,y,hy=>by
  cases k with
  |zero=>simp only[lC,D7,aH] at hy;exact⟨u,rfl,.inl ⟨by simp,hy.symm,rfl⟩⟩
  |succ k=>
   simp only[lC,HY] at hy⊢;have hk:k<us.length:=by rw[hl];exact(fE.1 hy).1
   exact⟨us[k],eI hk,.inr ⟨by omega,h k _ _ (eI hk) hy⟩⟩
 |n+1,u,x,[],[],hl,h,k,y,hy=>by cases k with|zero=>simp only[lC,D7,aH] at hy;exact⟨u,rfl,.inl ⟨by simp,hy.symm,rfl⟩⟩|succ k=>simp[lC] at hy
 |n+1,u,x,v::us,z::xs,hl,h,k,y,hy=>by
  have zG:us.length=xs.length:=by simpa using hl
  have hm:min (n+1) (us.length+1)=min n us.length+1:=by omega
  cases k with|zero=>simp only[lC,D7,aH] at hy;subst hy;exact⟨v,rfl,.inr ⟨by rw[fY,hm];omega,h 0 v z rfl rfl⟩⟩|succ k=>simp only[lC,HY] at hy;obtain⟨v',h1,h2⟩:=bQ0 n u x us xs zG (fun j v y hv hy=>h (j+1) v y (by simpa using hv) (by simpa using hy)) k y hy;refine⟨v',by simpa[lC] using h1,?_⟩;rw[fY,hm];rcases h2 with⟨e1,e2,e3⟩|⟨e1,e2⟩;exact .inl ⟨by omega,e2,e3⟩;exact .inr ⟨by omega,e2⟩
def V.argR:V->Bool
 | .t _=>false| .ow _ _=>false| .bx _=>false| .mp _ _=>false|_=>true
def vO.reps {u:Value}{us:List Value}{xs:List V}(h:vO P S w aD u us xs)(hx:xs.all V.argR=true):aX S w us xs:=by refine⟨h.1,fun j v x hv lX=> ?_⟩;have h1:=h.2 j v x hv lX;have h2:=eM.1 hx x (k6 lX);cases x<;>first |exact h1|(simp[V.argR] at h2;done)
def FI.start_own {pos e:Nat}{es:List V}{u:Value}{us:List Value}{xs:List V}(dA:aD<=w.heap.size)(hG:mV S w)(hS:∀b,S b->b<w.heap.size)(hu:GI P S w aD e es u)(oD:∀g,dR u=some g->¬S g)(hr:aX S w us xs)(harg:xs.all V.argR=true)
  (lA:xs.length+1<=nt)(O':∀n,n<xs.length+1->n∈keep):
  FI P nt keep (fun b=>b<w.heap.size/\dR u≠some b) aD w (kR 0 (lC pos (.ow e es) xs)) {tmps:=(lC pos u us).toArray++Array.replicate (nt - (lC pos u us).toArray.size) undef,defers:=[]} w:=by
 have bT:(lC pos u us).length=xs.length+1:=by rw[Zz,hr.1]
 have hSS:∀b,S b->(b<w.heap.size/\dR u≠some b):=fun b hb=>⟨hS b hb,fun e=>oD b e hb⟩;have mQ:aX (fun b=>b<w.heap.size/\dR u≠some b) w us xs:=hr.mono hSS;have cP:GI P (fun b=>b<w.heap.size/\dR u≠some b) w aD e es u:=by obtain⟨vs,h1,h2,h3,h4⟩:=hu;exact⟨vs,h1,h2,h3,h4.mono hSS⟩
 have hg:∀n x,aF n (kR 0 (lC pos (.ow e es) xs))=some x->∃v,(lC pos u us)[n]? =some v/\n<xs.length+1/\((n=min pos us.length/\x= .ow e es/\v=u)\/(n≠min pos us.length/\aP (fun b=>b<w.heap.size/\dR u≠some b) w v x/\x.names=none/\x.isOwn=false/\x.smp=true)):=by
  intro n x hx;rw[aB2] at hx;simp only[QL,mW,QM] at hx;have hn:n<xs.length+1:=by have:=(fE.1 hx).1;rw[Zz] at this;exact this
  obtain⟨v,hv,h⟩:=bQ0 (R:=fun v x=>aP (fun b=>b<w.heap.size/\dR u≠some b) w v x/\x.names=none/\x.isOwn=false/\x.smp=true) pos u (.ow e es) us xs hr.1 (fun j v y hv hy=>by
   have kN:=mQ.2 j v y hv hy;have hax:=eM.1 harg y (k6 hy);exact⟨kN,(I9 kN).1,(I9 kN).2.1,Qr kN fun ys e=>by subst e;simp[V.argR] at hax⟩) n x hx
  exact⟨v,hv,hn,h⟩
 refine⟨(YU _ 0).1,?_,rfl,cZ _ _,fun _ _=>rfl,dA,fun n x hx=> ?_,_,fun _ h=>h,fun b h=>⟨.inl h,h.1⟩,?_⟩;simp only[XX,rL,Array.size_replicate];omega;obtain⟨v,_,h,_⟩:=hg n x hx;exact⟨O' n h,by omega⟩
 ·have tmv:∀{n:Nat} {v:Value},(lC pos u us)[n]? =some v->((lC pos u us).toArray++Array.replicate (nt - (lC pos u us).toArray.size) undef)[n]? =some v:=by
   intro n v hv;have bE:=(fE.1 hv).1;rw[Array.getElem?_append_left (by simpa using bE)];simpa using hv
  have own1:∀n c g,cO (kR 0 (lC pos (.ow e es) xs)) (fun n=>((lC pos u us).toArray++Array.replicate (nt - (lC pos u us).toArray.size) undef)[n]?) n c g->n=min pos us.length/\c=none:=by
   intro n c g h;cases c with
   |none=>obtain⟨x,v,hx,ho,_⟩:=h;obtain⟨_,_,_,h|h⟩:=hg n x hx;exact⟨h.1,rfl⟩;rw[h.2.2.2.1] at ho;cases ho
   |some j=>obtain⟨ys,_,_,_,hx,_⟩:=h;obtain⟨_,_,_,h|h⟩:=hg n _ hx;cases h.2.1;have:=h.2.2.2.2;simp[V.smp] at this
  refine⟨fun n x hx=> ?_,fun n x m hx hm=> ?_,fun n c n' c' g h h'=> ?_,hG.move hSS fun _ _=>rfl⟩
  ·obtain⟨v,hv,_,h⟩:=hg n x hx;refine⟨v,tmv hv,?_⟩;rcases h with⟨_,rfl,rfl⟩|⟨_,kN,_,ho,kM⟩;exact⟨cP,fun g hg hS=>hS.2 hg⟩
   ·rw[fT.res1 kM];cases x<;>first |exact kN|(simp[V.isOwn] at ho;done)|(simp[V.smp] at kM;done)
  obtain⟨v,_,_,h⟩:=hg n x hx;rcases h with⟨_,rfl,_⟩|⟨_,_,jQ,_⟩;cases hm;rw[jQ] at hm;cases hm;obtain⟨e1,e2⟩:=own1 n c g h;obtain⟨e3,e4⟩:=own1 n' c' g h';exact⟨e1.trans e3.symm,e2.trans e4.symm⟩
def bD6 {fn:Func}{rs:List RV}(eA:sY P fn.results.toList=some rs){aA:aG}{a':Act}{w':World}(dI:FI P nt keep S aD w0 aA a' w'){y:V}(hy:∀ys,y≠ .t ys)(hv:yA rs aA=some y):
  a'.defers=[]/\∃v,(results fn a'.tmps).run P w'= .ok v w'/\∃Im:Nat->Prop,(∀b,S b->Im b)/\(∀b,Im b->(S b\/aD<=b)/\b<w'.heap.size)/\fL P Im w' aD v y:=by
 obtain⟨Im,cE,bK,hE⟩:=dI.ents;unfold yA at hv;simp only[gY] at hv;obtain⟨ys,Aq,eS⟩:=hv;obtain⟨us,bY,hl,hh,hap,_⟩:=Qv hE dI.srt eA Aq;refine⟨dI.defers,(if h:us.toArray.size=1 then us.toArray[0] else .tuple us.toArray),?_,Im,cE,bK,?_⟩;unfold results;rw[Tc];simp only[UI,dX]
 erw [bY]
 simp only[dQ,eU]
 ·match ys,us,hl,hh,eS with|[y1],[u1],_,hh,eS=>simp only at eS;subst eS;simpa using hh 0 u1 y1 rfl rfl|[],[],_,hh,eS=>exact absurd eS.symm (hy _)|y1::y2::yr,u1::u2::ur,hl,hh,eS=>exact absurd eS.symm (hy _)
def Y9 {S S':Nat->Prop}{w w':World}{vs:List Value}{xs:List V}(h:aX S w vs xs)(hf:∀x∈xs,x.flat=true):aX S' w' vs xs:=
 ⟨h.1,fun j u x hu hx=>(h.2 j u x hu hx).of_flat (hf x (k6 hx))⟩
def dS4 (ho:eL P o){f:FuncId}{fn:Func}(hf:P.funcs[f]? =some fn){fc:aQ}(hc:oU P fn=some fc){pos e:Nat}{es xs bW:List V}(h1:xs.length+1=fc.np)(h2:xs.all V.argR=true)(fC:∀x∈cL bW,x.flat=true)
  (hv:wH fc.res (bI o fc.body (kR 0 (lC pos (.ow e es) xs)))=some (.ow e bW)):Pw P f pos e true false es xs bW:=by
 unfold oU at hc;simp only[bL] at hc;obtain⟨c,wT,b,F3,rs,eA,hc⟩:=hc;split at hc;rename_i fN;cases hc;intro S w aD u vs us hS hG dA how hk cK hr oD pZ _;refine LK hf wT ?_;have hb:dR u=u.ownBlock:=(Gj how).symm;have bT:us.length=xs.length:=pZ.1;have hF:=FI.start_own (P:=P) (nt:=fn.ntmps) (keep:=Bn fn c) (pos:=pos) dA hG hS ⟨vs,how,hk,cK,hr⟩ (fun g hg=>oD g (by rw[<-hb];exact hg)) (pZ.reps h2) h2 (by rw[h1];exact fN.1) (fun n hn=>Oi (nH.2 (by rw[h1] at hn;exact hn)));cases hx:bI o b (kR 0 (lC pos (.ow e es) xs)) with
 |none=>simp only[hx] at hv;cases hv
 |some p=>
  obtain⟨ex,aN⟩:=p;simp only[hx] at hv;refine zM ho fN.2 c [] (Er fn) b F3 _ ex aN hx _ w hF _ fun a' w' dI=> ?_;have fin:yA rs aN=some (.ow e bW)->a'.defers=[]/\∃v,(results fn a'.tmps).run P w'= .ok v w'/\∃(r v':Value) (dU:List Value),Ending.returned v= .returned r/\w.grownBy w' u.ownBlock/\(∀g,v'.ownBlock=some g->u.ownBlock=some g\/w.heap.size<=g)/\w'.ownsRow aD e (P.cellsOf e) v' bW.length dU/\(∀x∈bW,x.cells.length=P.cellsOf e)/\
    (∀x∈cL bW,x.cell=true)/\aX S w dU (cL bW)/\(if true=true then r=v' else v'=u/\r= .tuple #[]):=by
   intro dZ;obtain⟨hd,v,bY,Im,cE,bK,⟨⟨dU,Gv,gD,wS,mQ⟩,kC⟩⟩:=bD6 (P:=P) eA dI (y:= .ow e bW) (fun ys e=>by cases e) dZ;refine⟨hd,v,bY,v,v,dU,rfl,⟨dI.below.os,dI.below.tape,dI.below.output,dI.below.size,fun k hk bM=>dI.kept k ⟨hk,fun e=>bM (by rw[<-hb,e])⟩⟩,fun g hg=> ?_,Gv,gD,wS,Y9 mQ fC,by simp⟩;rw[Gj Gv] at hg;rw[<-hb];by_cases hgu:dR u=some g;exact .inl hgu;refine .inr ?_;rcases JN g w.heap.size with bE|FY;exact absurd (cE g ⟨bE,hgu⟩) (kC g hg);exact FY
  cases ex with|n=>exact fin hv|r=>exact fin hv|e id=>cases hv
 cases hc
end
end Go.VM
namespace Go.VM
section
variable {o:aU} {kin:List Nat} {c:C}
def Zc {aA aN:aG}(hF:keepE kin aA=aA)(dI:keepE kin aN=aN)(h:kE kin (bI o c aA)=some (.n,aN)):bP o kin c aA=bP o kin c aN:=by rcases Zn h with⟨_,g,hg,hk⟩|⟨hn,_⟩;rw[bP,Bl,hF,hg,Y4,bP,Bl,Bl,hk,dI];exact absurd rfl hn
def Lx {aA:aG}{r:Ex×aG}(hF:keepE kin aA=aA)(h:bI o c aA=some r)(hr:r.1≠ .n):bP o kin c aA=some r:=by rw[bP,Bl,hF,h];obtain⟨e,g⟩:=r;cases e with|n=>exact absurd rfl hr|e id=>rfl|r=>rfl
def dW (I:Nat->aG->Prop)(n:Nat)(Q:Ex×aG->Prop)(hk:∀i aA,I i aA->keepE kin aA=aA)
  (hs:∀i aA,i<n->I i aA->(∃aN,kE kin (bI o c aA)=some (.n,aN)/\I (i+1) aN)\/∃r,bI o c aA=some r/\r.1≠ .n/\Q r)
  (he:∀aA,I n aA->∃r,bI o c aA=some r/\r.1≠ .n/\Q r):∀(m i:Nat) (aA:aG),i+m=n->I i aA->∃r,bP o kin c aA=some r/\Q r
 |0,i,aA,h,hI=>by
  obtain rfl:i=n:=by omega
  obtain⟨r,hr,hn,hQ⟩:=he aA hI;exact⟨r,Lx (hk _ _ hI) hr hn,hQ⟩
 |m+1,i,aA,h,hI=>by rcases hs i aA (by omega) hI with⟨aN,h1,h2⟩|⟨r,hr,hn,hQ⟩;rw[Zc (hk _ _ hI) (hk _ _ h2) h1];exact dW I n Q hk hs he m (i+1) aN (by omega) h2;exact⟨r,Lx (hk _ _ hI) hr hn,hQ⟩
def Dt (F:Nat->aG)(n:Nat)(Q:Ex×aG->Prop)(hk:∀i,keepE kin (F i)=F i)
  (hs:∀i,i<n->kE kin (bI o c (F i))=some (.n,F (i+1))\/∃r,bI o c (F i)=some r/\r.1≠ .n/\Q r)
  (he:∃r,bI o c (F n)=some r/\r.1≠ .n/\Q r):∃r,bP o kin c (F 0)=some r/\Q r:=
 dW (fun i aA=>aA=F i) n Q (fun _ _ h=>by rw[h];exact hk _) (fun i aA hi h=>by
  subst h;rcases hs i hi with h|h;exact .inl ⟨_,h,rfl⟩;exact .inr h) (fun aA h=>by subst h;exact he) n 0 (F 0) (by omega) rfl
def lK (F:Nat->aG)(n:Nat)(Q:Ex×aG->Prop)(hk:∀i,keepE kin (F i)=F i)
  (hs:∀i,i<n->∃r,bI o c (F i)=some r/\((r.1= .n/\keepE kin r.2=F (i+1))\/(r.1≠ .n/\Q r)))
  (he:∃r,bI o c (F n)=some r/\r.1≠ .n/\Q r):∃r,bP o kin c (F 0)=some r/\Q r:=
 Dt F n Q hk (fun i hi=>by
  obtain⟨⟨e,g⟩,hr,h|h⟩:=hs i hi;left;obtain⟨h1,h2⟩:=h;simp only at h1 h2;subst h1;rw[hr,bO1,h2];exact .inr ⟨_,hr,h.1,h.2⟩) he
end
def dD9 [cB]{bJ:Nat->Option aQ}{ext:aU}{f:Nat}{fc:aQ}(ht:bJ f=some fc){args:List V}{R:V->Prop}(hl:args.length=fc.np)(ha:args.all V.arg=true)(h:∃y,wH fc.res (bI (nE bJ ext) fc.body (kR 0 args))=some y/\R y):∃y,nE bJ ext f args=some y/\R y:=by obtain⟨y,h,hR⟩:=h;exact⟨y,VM.run ht hl ha h,hR⟩
end Go.VM
