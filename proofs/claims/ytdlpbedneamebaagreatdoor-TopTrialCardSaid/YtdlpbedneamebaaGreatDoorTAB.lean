/-
Plain laws and walks: part of the proof of the last text.
-/
import Derived.Test.YtdlpbedneamebaaGreatDoorSndP
import Derived.Test.YtdlpbedneamebaaGreatDoorTR
set_option linter.all false
namespace Go.Proofs.YtdlpbedneamebaaGreatDoor
open Go.VM
variable {X:aU}
def uN (D:Int->Int->List UInt8->Nat->Prop):Nat->List V->Prop
 |0,_=>False|n+1,ys=>∃(op k:Int) (s:List UInt8) (aR:List (List V)),ys=xc op k s aR/\aR.length<=100/\D op k s aR.length/\∀zs∈aR,uN D n zs
def uN.len {D:Int->Int->List UInt8->Nat->Prop}{n:Nat}{ys:List V}(h:uN D n ys):ys.length=4:=by cases n with|zero=>exact h.elim|succ n=>obtain⟨_,_,_,_,rfl,_⟩:=h;rfl
def uN.cl {D:Int->Int->List UInt8->Nat->Prop}{n:Nat}{ys:List V}(h:uN D n ys):(∀y∈ys,y.cell=true)=True:=by cases n with|zero=>exact h.elim|succ n=>obtain⟨_,_,_,_,rfl,_⟩:=h;simp
@[simp] def gM7 (g:Nat):(V.f (.func g) [] []).cells=[.f (.func g) [] []]:=rfl
def uN.le {D:Int->Int->List UInt8->Nat->Prop}:∀{n m:Nat} {ys:List V},n<=m->uN D n ys->uN D m ys
 |0,_,_,_,h=>h.elim|n+1,0,_,jQ,_=>by omega|n+1,m+1,_,jQ,h=>by obtain⟨op,k,s,aR,rfl,hl,hd,hz⟩:=h;exact⟨op,k,s,aR,rfl,hl,hd,fun zs gP=>(hz zs gP).le (by omega)⟩
def Tr.ev:∀(n:Nat),n<=100->∀ys:List V,Tr n ys->uN (fun _ _ _ _=>True) n ys:=by intro n;induction n using Nat.strongRecOn with|_ n ih=>intro hn ys h;obtain⟨op,k,s,aR,rfl,bT,hz⟩:=h.cells;obtain⟨n,rfl⟩:∃n',n=n'+1:=⟨n - 1,by omega⟩;refine⟨op,k,s,aR,rfl,by omega,trivial,fun zs gP=> ?_⟩;obtain⟨m,hm,hT⟩:=hz zs gP;exact(ih m hm (by omega) zs hT).le (by omega)
def bL1:∀{l m:List (List V)},l.map V.a=m.map V.a->l=m
 |[],[],_=>rfl|[],_::_,h=>by simp at h|_::_,[],h=>by simp at h|a::l,b::m,h=>by simp only[fF,gG,V.a.injEq] at h;rw[h.1,bL1 h.2]
def iG (op:Int):Int:=if op=1\/op=2\/op=3\/op=4 then 0 else if op=9\/op=16 then 1 else if op=19 then 3 else if 5<=op/\op<=18 then 2 else -1
def NF (N:List (List UInt8))(op k:Int)(s:List UInt8)(m:Nat):Prop:=(iG op=m/\0<=k/\k<=9223372036854775807)/\(op=4->s∈N)
def bU7 (N:List (List UInt8)):∀(n:Nat) (ys:List V),uN (fun op k _ m=>iG op=m/\0<=k/\k<=9223372036854775807) n ys->r7 N n ys->uN (NF N) n ys
 |0,_,h,_=>h.elim
 |n+1,_,h,h'=>by
  obtain⟨op,k,s,aR,rfl,hl,hd,hz⟩:=h;obtain⟨eX,k',s',zss',he,h4,gC⟩:=h';simp only[xc,gG,V.i.injEq,V.s.injEq,V.l.injEq,LN,jJ] at he;obtain⟨rfl,rfl,rfl,he⟩:=he;obtain rfl:=bL1 he;refine⟨op,k,s,aR,rfl,hl,⟨hd,h4⟩,fun zs gP=> ?_⟩;have h0:¬(op=1\/op=2\/op=3\/op=4):=fun h=>by
   have:iG op=0:=by unfold iG;rw[aY h]
   rw[this] at hd;have hd:=hd.1;have:=List.length_pos_of_mem gP;omega
  exact bU7 N n zs (hz zs gP) (gC (fun h=>h0 (.inl h)) (fun h=>h0 (.inr (.inl h))) (fun h=>h0 (.inr (.inr (.inl h)))) (fun h=>h0 (.inr (.inr (.inr h)))) zs gP)
def aT4 {D:Int->Int->List UInt8->Nat->Prop}:∀(n:Nat) (ys:List V),uN D n ys->∃z:Int,O X 233 [.a ys]=some (.i .i64 z)
 |0,_,h=>h.elim
 |n+1,_,h=>by
  obtain⟨op,k,s,aR,rfl,hl,_,hz⟩:=h;have cW:∃r,bP (O X) [3,7,8,9] Wi [(3,.i .i64 1),(7,.l (aR.map V.a)),(8,.i .i64 aR.length),(9,.i .i64 ((0:Nat):Int))]=some r/\∃z:Int,r=(.e 0,[(3,.i .i64 z)]):=by refine dW (fun i aA=>∃z:Int,aA=[(3,.i .i64 z),(7,.l (aR.map V.a)),(8,.i .i64 aR.length),(9,.i .i64 (i:Int))]) aR.length _ (fun i aA hI=> ?_) (fun i aA hi hI=> ?_) (fun aA hI=> ?_) aR.length 0 _ (by omega) ⟨1,rfl⟩;obtain⟨z,rfl⟩:=hI;simp;obtain⟨z,rfl⟩:=hI;left;have hw:=bC (i+1) (by omega);obtain⟨q,hq⟩:=aT4 n _ (hz _ (gN hi));have h4:=(hz _ (gN hi)).len;have cK:=(hz _ (gN hi)).cl;exact⟨[(3,.i .i64 (IntKind.i64.wrap (z+q))),(7,.l (aR.map V.a)),(8,.i .i64 aR.length),(9,.i .i64 ((i+1:Nat):Int))],by simp[Wi,hi,hw,hq,h4,cK],_,rfl⟩;obtain⟨z,rfl⟩:=hI;exact⟨(.e 0,[(3,.i .i64 z)]),by simp[Wi],by simp,z,rfl⟩
  obtain⟨_,cW,z,rfl⟩:=cW;simp only[fU] at cW;exact⟨z,aI (fc:=aJ1) cS7 rfl rfl (by simp[aJ1,bA,cW])⟩
def aT3 {D:Int->Int->List UInt8->Nat->Prop}:∀(n:Nat) (ys:List V),uN D n ys->∃z:Int,O X 234 [.a ys]=some (.i .i64 z)
 |0,_,h=>h.elim
 |n+1,_,h=>by
  obtain⟨op,k,s,aR,rfl,hl,_,hz⟩:=h;have cW:∃r,bP (O X) [3,7,8,9] Wh [(3,.i .i64 0),(7,.l (aR.map V.a)),(8,.i .i64 aR.length),(9,.i .i64 ((0:Nat):Int))]=some r/\∃z:Int,r=(.e 0,[(3,.i .i64 z)]):=by refine dW (fun i aA=>∃z:Int,aA=[(3,.i .i64 z),(7,.l (aR.map V.a)),(8,.i .i64 aR.length),(9,.i .i64 (i:Int))]) aR.length _ (fun i aA hI=> ?_) (fun i aA hi hI=> ?_) (fun aA hI=> ?_) aR.length 0 _ (by omega) ⟨0,rfl⟩;obtain⟨z,rfl⟩:=hI;simp;obtain⟨z,rfl⟩:=hI;left;have hw:=bC (i+1) (by omega);obtain⟨q,hq⟩:=aT3 n _ (hz _ (gN hi));have h4:=(hz _ (gN hi)).len;have cK:=(hz _ (gN hi)).cl;exact⟨[(3,.i .i64 (if z<q then q else z)),(7,.l (aR.map V.a)),(8,.i .i64 aR.length),(9,.i .i64 ((i+1:Nat):Int))],by simp[Wh,hi,hw,hq,h4,cK],_,rfl⟩;obtain⟨z,rfl⟩:=hI;exact⟨(.e 0,[(3,.i .i64 z)]),by simp[Wh],by simp,z,rfl⟩
  obtain⟨_,cW,z,rfl⟩:=cW;simp only[fU] at cW;exact⟨IntKind.i64.wrap (z+1),aI (fc:=aJ0) cS6 rfl rfl (by simp[aJ0,bA,cW])⟩
def cI9 (g:Nat)(P:List V->Prop)(aR:List (List V))(hl:aR.length<=100)(h4:∀zs∈aR,zs.length=4)(hF:∀zs∈aR,∃t:Bool,O X 253 [.a zs,.r [.f (.func g) [] []]]=some (.b (!t))/\(t=true->P zs)):
  ∃z:Int,O X 276 [.l (aR.map V.a),.f (.func 253) [] [.r [.f (.func g) [] []]]]=some (.i .i64 z)/\(¬0<=z->∀zs∈aR,P zs):=by
 have cW:∃r,bP (O X) [0,1,7,8] TA [(0,.l (aR.map V.a)),(1,.f (.func 253) [] [.r [.f (.func g) [] []]]),(7,.i .i64 aR.length),(8,.i .i64 ((0:Nat):Int))]=some r/\((∃i:Nat,r=(.r,[(4,.i .i64 i)]))\/(r=(.e 0,[])/\∀zs∈aR,P zs)):=by
  refine dW (fun i aA=>aA=[(0,.l (aR.map V.a)),(1,.f (.func 253) [] [.r [.f (.func g) [] []]]),(7,.i .i64 aR.length),(8,.i .i64 (i:Int))]/\∀(k:Nat) (hk:k<aR.length),k<i->P aR[k]) aR.length _ (fun i aA hI=> ?_) (fun i aA hi hI=> ?_) (fun aA hI=> ?_) aR.length 0 _ (by omega) ⟨rfl,fun k _ h=>absurd h (by omega)⟩;obtain⟨rfl,_⟩:=hI;simp;obtain⟨rfl,hz⟩:=hI;have hw:=bC (i+1) (by omega);obtain⟨t,ht,hp⟩:=hF _ (gN hi);have EK:=h4 _ (gN hi);cases t with|true=>left;refine⟨[(0,.l (aR.map V.a)),(1,.f (.func 253) [] [.r [.f (.func g) [] []]]),(7,.i .i64 aR.length),(8,.i .i64 ((i+1:Nat):Int))],by simp[TA,hi,hw,EK,ht],rfl,fun k hk kY=> ?_⟩;by_cases e:k=i;subst e;exact hp rfl;exact hz k hk (by omega)|false=>right;exact⟨(.r,[(4,.i .i64 i)]),by simp[TA,hi,EK,ht],by simp,.inl ⟨i,rfl⟩⟩
  obtain⟨rfl,hz⟩:=hI;refine⟨(.e 0,[]),by simp[TA],by simp,.inr ⟨rfl,fun zs gP=> ?_⟩⟩;obtain⟨k,hk,rfl⟩:=lH gP;exact hz k hk hk
 obtain⟨r,cW,hr⟩:=cW;simp only[fU] at cW;rcases hr with⟨i,rfl⟩|⟨rfl,hz⟩;exact⟨i,aI (fc:=SW) aW9 rfl rfl (by simp[SW,bA,cW]),fun h=>absurd (XZ i) h⟩;exact⟨-1,aI (fc:=SW) aW9 rfl rfl (by simp[SW,bA,cW]),fun _=>hz⟩
def Xm (g:Nat)(D Q:Int->Int->List UInt8->Nat->Prop)(hF:∀op k s aR,D op k s aR.length->∃t:Bool,O X g [.a (xc op k s aR)]=some (.b t)/\(t=true->Q op k s aR.length)):
  ∀(n:Nat) (ys:List V),uN D n ys->∃t:Bool,O X 235 [.a ys,.f (.func g) [] []]=some (.b t)/\(t=true->uN Q n ys)
 |0,_,h=>h.elim
 |n+1,_,h=>by
  obtain⟨op,k,s,aR,rfl,hl,hd,hz⟩:=h;obtain⟨t,ht,hq⟩:=hF op k s aR hd;have h253:∀zs∈aR,∃t:Bool,O X 253 [.a zs,.r [.f (.func g) [] []]]=some (.b (!t))/\(t=true->uN Q n zs):=fun zs gP=>by
   obtain⟨t,ht,hq⟩:=Xm g D Q hF n zs (hz zs gP);have h4:=(hz zs gP).len;obtain⟨op,k,s,wss,rfl,_⟩:∃op k s wss,zs=xc op k s wss/\True:=by cases n with|zero=>exact(hz zs gP).elim|succ n=>obtain⟨op,k,s,wss,h,_⟩:=hz zs gP;exact⟨op,k,s,wss,h,trivial⟩
   exact⟨t,aI (fc:=aI3) cS1 rfl rfl (by simp[aI3,ht]),hq⟩
  obtain⟨z,h276,hp⟩:=cI9 (X:=X) g (uN Q n) aR hl (fun zs gP=>(hz zs gP).len) h253;have h252:O X 252 [.l (aR.map V.a),.f (.func 253) [] [.r [.f (.func g) [] []]]]=some (.b (decide (0<=z))):=aI (fc:=aI4) cS2 rfl rfl (by simp[aI4,h276]);cases t with|false=>exact⟨false,aI (fc:=Mk) YC rfl rfl (by simp[Mk,ht]),by simp⟩|true=>by_cases h0:0<=z;rw[yS h0] at h252;exact⟨false,aI (fc:=Mk) YC rfl rfl (by simp[Mk,ht,h252]),by simp⟩;rw[zT h0] at h252;exact⟨true,aI (fc:=Mk) YC rfl rfl (by simp[Mk,ht,h252]),fun _=>⟨op,k,s,aR,rfl,hl,hq rfl,hp h0⟩⟩
def cJ4 (op:Int):O X 254 [.i .i64 op]=some (.i .i64 (iG op)):=by refine aI (fc:=HD) cS0 rfl rfl ?_;unfold iG;by_cases h1:op=1;simp[HD,h1];by_cases h2:op=2;simp[HD,h2];by_cases h3:op=3;simp[HD,h3];by_cases h4:op=4;simp[HD,h4];by_cases h9:op=9;simp[HD,h9];by_cases uF:op=16;simp[HD,uF];by_cases BF:op=19;simp[HD,BF];by_cases h5:5<=op<;>by_cases h18:op<=18<;>simp[HD,h1,h2,h3,h4,h9,uF,BF,h5,h18]
def cK1 (op k:Int)(s:List UInt8)(aR:List (List V)):∃t:Bool,O X 236 [.a (xc op k s aR)]=some (.b t)/\(t=true->iG op=aR.length/\0<=k/\k<=9223372036854775807):=by
 have h:=cJ4 (X:=X) op;generalize iG op=z at h;have:∃y,O X 236 [.a (xc op k s aR)]=some y/\BP (z=aR.length/\0<=k/\k<=9223372036854775807) y:=by
  by_cases hz:z=aR.length
  rotate_left
  refine gZ (fc:=uK) Ul rfl rfl ?_;by_cases h1:op=1;subst h1;simp[uK,h,hz];by_cases h2:op=2;subst h2;simp[uK,h,hz];by_cases h3:op=3;subst h3;simp[uK,h,hz];simp[uK,h,h1,h2,h3,hz];subst hz;by_cases k0:0<=k
  rotate_left
  refine gZ (fc:=uK) Ul rfl rfl ?_;by_cases h1:op=1;subst h1;simp[uK,h,k0];by_cases h2:op=2;subst h2;simp[uK,h,k0];by_cases h3:op=3;subst h3;simp[uK,h,k0];simp[uK,h,h1,h2,h3,k0];by_cases k1:k<=9223372036854775807;obtain⟨y,hy,t,rfl,_⟩:∃y,O X 236 [.a (xc op k s aR)]=some y/\BP True y:=by refine gZ (fc:=uK) Ul rfl rfl ?_;by_cases h1:op=1;subst h1;simp[uK,h];by_cases h2:op=2;subst h2;simp[uK,h];by_cases h3:op=3;subst h3;simp[uK,h];simp[uK,h,h1,h2,h3]
  exact⟨_,hy,t,rfl,fun _=>⟨rfl,k0,k1⟩⟩;refine gZ (fc:=uK) Ul rfl rfl ?_;by_cases h1:op=1;subst h1;simp[uK,h,k0,k1];have k2:¬k<=1000000000000:=by omega
  by_cases h2:op=2;subst h2;simp[uK,h,k0,k2];have k3:¬k<=1000000:=by omega
  by_cases h3:op=3;subst h3;simp[uK,h,k0,k3];have k4:¬k<=0:=by omega
  simp[uK,h,h1,h2,h3,k0,k4]
 obtain⟨y,h,t,rfl,hp⟩:=this;exact⟨t,h,hp⟩
def cK0 (N:List (List UInt8))(hN:∀s∈N,∃t:Bool,O X 255 [.s s]=some (.b t))(op k:Int)(s:List UInt8)(aR:List (List V))(hs:op=4->s∈N):∃t:Bool,O X 237 [.a (xc op k s aR)]=some (.b t):=by by_cases h4:op=4;obtain⟨t,ht⟩:=hN s (hs h4);exact⟨t,aI (fc:=S4) aX1 rfl rfl (by simp[S4,h4,ht])⟩;exact⟨true,aI (fc:=S4) aX1 rfl rfl (by simp[S4,h4])⟩
def aT5 (N:List (List UInt8))(hN:∀s∈N,∃t:Bool,O X 255 [.s s]=some (.b t))(k:Nat)(hk:k<=64)(ys:List V)(hT:Tr k ys)(hM:r7 N k ys):∃e:Int,O X 219 [.a ys]=some (.i .i64 e)/\(e=0->uN (NF N) k ys):=by
 have hE:=Tr.ev k (by omega) ys hT;obtain⟨z1,h1⟩:=aT4 (X:=X) k ys hE;obtain⟨z2,h2⟩:=aT3 (X:=X) k ys hE;obtain⟨t1,h3,hp1⟩:=Xm (X:=X) 236 (fun _ _ _ _=>True) (fun op k _ m=>iG op=m/\0<=k/\k<=9223372036854775807) (fun op k s aR _=>cK1 op k s aR) k ys hE;obtain⟨op,j,s,aR,rfl,_⟩:=hT.cells;by_cases c1:64<z1;exact⟨5,aI (fc:=Fp) Ql rfl rfl (by simp[Fp,h1,c1]),by simp⟩;by_cases c2:8<z2;exact⟨5,aI (fc:=Fp) Ql rfl rfl (by simp[Fp,h1,h2,c1,c2]),by simp⟩;cases t1 with
 |false=>exact⟨1,aI (fc:=Fp) Ql rfl rfl (by simp[Fp,h1,h2,h3,c1,c2]),by simp⟩
 |true=>
  have hB:=bU7 N k _ (hp1 rfl) hM;obtain⟨t2,h5,_⟩:=Xm (X:=X) 237 (NF N) (fun _ _ _ _=>True) (fun op k s aR h=>by
   obtain⟨t,ht⟩:=cK0 (X:=X) N hN op k s aR h.2;exact⟨t,ht,fun _=>trivial⟩) k _ hB
  cases t2 with|false=>exact⟨4,aI (fc:=Fp) Ql rfl rfl (by simp[Fp,h1,h2,h3,h5,c1,c2]),by simp⟩|true=>exact⟨0,aI (fc:=Fp) Ql rfl rfl (by simp[Fp,h1,h2,h3,h5,c1,c2]),fun _=>hB⟩
def NP (X:aU):Prop:=∀op a b:Int,0<=op->op<=19->1<=a->a<=5->1<=b->b<=5->∃(t:Int) (u:Bool),X 257 [.i .i64 op,.i .i64 a,.i .i64 b]=some (.t [.i .i64 t,.b u])/\(u=true->((op=14\/op=15)->a=5/\b=5)/\((op=17\/op=18)->t≠5))
def dP8 (h:NP X)(op a b:Int)(h1:0<=op)(h2:op<=19)(h3:1<=a)(h4:a<=5)(h5:1<=b)(h6:b<=5):∃(t:Int) (u:Bool),O X 257 [.i .i64 op,.i .i64 a,.i .i64 b]=some (.t [.i .i64 t,.b u])/\(u=true->((op=14\/op=15)->a=5/\b=5)/\((op=17\/op=18)->t≠5)):=by obtain⟨t,u,hx,hp⟩:=h op a b h1 h2 h3 h4 h5 h6;exact⟨t,u,vJ rfl hx,hp⟩
@[simp] def fE3 (o:aU)(k:Nat)(a b:V)(r:List V):aS o (.ix k) [.l (a::b::r),.i .i64 1]=if b.cells.length=k then some (.r b.cells) else none:=by simp[VV]
@[simp] def fE2 (o:aU)(k:Nat)(a b c:V)(r:List V):aS o (.ix k) [.l (a::b::c::r),.i .i64 2]=if c.cells.length=k then some (.r c.cells) else none:=by simp[VV]
def QP (t:Int):O X 220 [.i .i64 t]=some (.b (decide (1<=t/\t<=5))):=by refine aI (fc:=aJ4) cT1 rfl rfl ?_;by_cases h:1<=t<;>simp[aJ4,h]
def cJ3 (op a:Int):∃(t:Int) (u:Bool),O X 256 [.i .i64 op,.i .i64 a]=some (.t [.i .i64 t,.b u])/\(u=true->op=16/\a=5\/op=9/\t≠5):=by
 by_cases uF:op=16;subst uF;exact⟨5,decide (a=5),aI (fc:=In) YB rfl rfl (by simp[In]),fun h=> .inl ⟨rfl,by simpa using h⟩⟩;by_cases h9:op=9;subst h9;refine⟨a,decide (a=1\/a=2\/a=3),aI (fc:=In) YB rfl rfl ?_,fun h=>by
  have h':a=1\/a=2\/a=3:=by simpa using h
  right;omega⟩
 by_cases h1:a=1;subst h1;simp[In];by_cases h2:a=2;subst h2;simp[In];simp[In,h1,h2];exact⟨0,false,aI (fc:=In) YB rfl rfl (by simp[In,uF,h9]),by simp⟩
def cD7 (op:Int)(l:List Int)(t:Int):Prop:=
 (∀a,l=[a]->op=16/\a=5\/op=9/\t≠5)/\
 (∀a b,l=[a,b]->((op=14\/op=15)->a=5/\b=5)/\((op=17\/op=18)->t≠5))/\
 (∀a b c,l=[a,b,c]->a=5/\b=t/\c=t)
def eA3 (op:Int)(l:List Int)(hl:l.length<=1000):∃r,bP (O X) [0,1,10,11,12] Fz [(0,.i .i64 op),(1,.l (bQ l)),(10,.l (bQ l)),(11,.i .i64 l.length),(12,.i .i64 0)]=some r/\(r=(.r,[(4,.i .i64 0),(5,.b false)])\/r=(.e 0,[(0,.i .i64 op),(1,.l (bQ l))])):=by
 have:=lK (o:=O X) (kin:=[0,1,10,11,12]) (c:=Fz) (fun i=>[(0,.i .i64 op),(1,.l (bQ l)),(10,.l (bQ l)),(11,.i .i64 l.length),(12,.i .i64 (i:Int))]) l.length (fun r=>r=(.r,[(4,.i .i64 0),(5,.b false)])\/r=(.e 0,[(0,.i .i64 op),(1,.l (bQ l))])) (by simp) (fun i hi=>by
  have hw:=bC (i+1) (by omega);have oR:=QP (X:=X) l[i];by_cases hc:1<=l[i]/\l[i]<=5;rw[yS hc] at oR;simp[-Prod.exists,Fz,hi,hw,oR];rw[zT hc] at oR;simp[-Prod.exists,Fz,hi,hw,oR]) (by simp[Fz])
 simpa using this
def eA2 (op:Int)(l:List Int)(hl:l.length<=1000)(j:Nat)(hj:j<l.length)(hb:¬(1<=l[j]/\l[j]<=5)):bP (O X) [0,1,10,11,12] Fz [(0,.i .i64 op),(1,.l (bQ l)),(10,.l (bQ l)),(11,.i .i64 l.length),(12,.i .i64 0)]=some (.r,[(4,.i .i64 0),(5,.b false)]):=by
 have:=lK (o:=O X) (kin:=[0,1,10,11,12]) (c:=Fz) (fun i=>[(0,.i .i64 op),(1,.l (bQ l)),(10,.l (bQ l)),(11,.i .i64 l.length),(12,.i .i64 (i:Int))]) j (fun r=>r=(.r,[(4,.i .i64 0),(5,.b false)])) (by simp) (fun i hi=>by
  have hi:i<l.length:=by omega
  have hw:=bC (i+1) (by omega);have oR:=QP (X:=X) l[i];by_cases hc:1<=l[i]/\l[i]<=5;rw[yS hc] at oR;simp[-Prod.exists,Fz,hi,hw,oR];rw[zT hc] at oR;simp[-Prod.exists,Fz,hi,hw,oR]) (by
  have oR:=QP (X:=X) l[j];rw[zT hb] at oR;simp[-Prod.exists,Fz,hj,oR])
 obtain⟨r,h,rfl⟩:=this;simpa using h
def cJ8 (hT:NP X)(op:Int)(l:List Int)(hl:l.length<=3)(ho:0<=op)(oC:op<=19):∃(t:Int) (u:Bool),O X 239 [.i .i64 op,.l (bQ l)]=some (.t [.i .i64 t,.b u])/\(u=true->cD7 op l t):=by
 by_cases eG:∀(j:Nat) (hj:j<l.length),1<=l[j]/\l[j]<=5
 rotate_left
 obtain⟨j,eG⟩:=Classical.not_forall.1 eG;obtain⟨hj,eG⟩:=Classical.not_forall.1 eG;have cW:=eA2 (X:=X) op l (by omega) j hj eG;exact⟨0,false,aI (fc:=sI) Em rfl rfl (by simp[sI,bA,cW]),by simp⟩;obtain⟨r,cW,hr⟩:=eA3 (X:=X) op l (by omega);rcases hr with rfl|rfl;exact⟨0,false,aI (fc:=sI) Em rfl rfl (by simp[sI,bA,cW]),by simp⟩
 match l,hl,cW,eG with
 |[],_,cW,eG=>rw[show bQ ([]:List Int)=[] from rfl] at cW⊢;exact⟨0,false,aI (fc:=sI) Em rfl rfl (by simp at cW;simp[sI,bA,cW]),by simp⟩|[a],_,cW,eG=>rw[show bQ [a]=[.i .i64 a] from rfl] at cW⊢;obtain⟨t,u,h,hp⟩:=cJ3 (X:=X) op a;cases u with|false=>exact⟨0,false,aI (fc:=sI) Em rfl rfl (by simp at cW;simp[sI,bA,cW,h]),by simp⟩|true=>refine⟨t,true,aI (fc:=sI) Em rfl rfl (by simp at cW;simp[sI,bA,cW,h]),fun _=>⟨fun a' h=> ?_,fun _ _ h=>by simp at h,fun _ _ _ h=>by simp at h⟩⟩;simp only[gG,jJ] at h;subst h;exact hp rfl
 |[a,b],_,cW,eG=>rw[show bQ [a,b]=[.i .i64 a,.i .i64 b] from rfl] at cW⊢;have ha:=eG 0 (by simp);have hb:=eG 1 (by simp);simp only[Tu,Tt] at ha hb;obtain⟨t,u,h,hp⟩:=dP8 (X:=X) hT op a b ho oC ha.1 ha.2 hb.1 hb.2;cases u with|false=>exact⟨0,false,aI (fc:=sI) Em rfl rfl (by simp at cW;simp[sI,bA,cW,h]),by simp⟩|true=>refine⟨t,true,aI (fc:=sI) Em rfl rfl (by simp at cW;simp[sI,bA,cW,h]),fun _=>⟨fun _ h=>by simp at h,fun a' b' h=> ?_,fun _ _ _ h=>by simp at h⟩⟩;simp only[gG,jJ] at h;obtain⟨rfl,rfl⟩:=h;exact hp rfl
 |[a,b,c],_,cW,eG=>
  rw[show bQ [a,b,c]=[.i .i64 a,.i .i64 b,.i .i64 c] from rfl] at cW⊢;by_cases BF:op=19
  rotate_left
  exact⟨0,false,aI (fc:=sI) Em rfl rfl (by simp at cW;simp[sI,bA,cW,BF]),by simp⟩;subst BF;by_cases h5:a=5
  rotate_left
  exact⟨0,false,aI (fc:=sI) Em rfl rfl (by simp at cW;simp[sI,bA,cW,h5]),by simp⟩;subst h5;by_cases AL:b=c
  rotate_left
  exact⟨0,false,aI (fc:=sI) Em rfl rfl (by simp at cW;simp[sI,bA,cW,AL]),by simp⟩;subst AL;refine⟨b,true,aI (fc:=sI) Em rfl rfl (by simp at cW;simp[sI,bA,cW]),fun _=>⟨fun _ h=>by simp at h,fun _ _ h=>by simp at h,fun a' b' c' h=> ?_⟩⟩;simp only[gG,jJ] at h;obtain⟨rfl,rfl,rfl⟩:=h;exact⟨rfl,rfl,rfl⟩
structure Vl where
 ty:Int
 n:Int
abbrev Vl.cells (x:Vl):List V:=[.i .i64 x.ty,.i .i64 x.n]
abbrev Vl.v (x:Vl):V:= .a ([.i .i64 x.ty,.i .i64 x.n])
@[simp] def Vl.all_len (l:List Vl):(aB Vl.v l).all (fun x=>x.cells.length==2)=true:=mU fun _=>rfl
@[simp] def Vl.len_all (l:List Vl):(∀x∈aB Vl.v l,x.cells.length=2)=True:=qB fun _=>rfl
def Xn (x:Vl):∃t:Bool,O X 222 [x.v]=some (.b t)/\(t=true->x.ty=5->x.n=0\/x.n=1):=by
 obtain⟨ty,n⟩:=x;have:∃y,O X 222 [.a [.i .i64 ty,.i .i64 n]]=some y/\BP (ty=5->n=0\/n=1) y:=by refine gZ (fc:=HE) cT0 rfl rfl ?_;by_cases h1:ty=1;subst h1;simp[HE];by_cases h2:ty=2;subst h2;by_cases c: -1000000000000<=n<;>simp[HE,c];by_cases h3:ty=3;subst h3;by_cases c: -1000000000<=n<;>simp[HE,c];by_cases h4:ty=4;subst h4;by_cases c:0<=n<;>simp[HE,c];by_cases h5:ty=5;subst h5;by_cases c:n=0;subst c;simp[HE];by_cases c':n=1;subst c';simp[HE];simp[HE,c,c'];simp[HE,h1,h2,h3,h4,h5]
 obtain⟨y,h,t,rfl,hp⟩:=this;exact⟨t,h,hp⟩
def UO (b:Bool):O X 258 [.b b]=some (.i .i64 (if b then 1 else 0)):=by refine aI (fc:=aI2) cR9 rfl rfl ?_;cases b<;>simp[aI2]
def bR (n:Int):Prop:= -9223372036854775808<=n/\n<=9223372036854775807
def bR.wrap (n:Int):bR (IntKind.i64.wrap n):=by rw[oV];unfold bR;omega
def HS:bR 0:=by unfold bR;omega
def cJ7 (x:Vl):O X 240 [.i .i64 16,.l [x.v]]=some (.i .i64 (IntKind.i64.wrap (1 - x.n))):=by refine aI (fc:=wW) Hw rfl rfl ?_;simp[wW]
def cJ6 (op:Int)(h9:9<op)(uF:op≠16)(BF:op≠19)(x y:Vl)(hx:bR x.n)(hy:bR y.n):∃n:Int,O X 240 [.i .i64 op,.l [x.v,y.v]]=some (.i .i64 n)/\bR n/\(op<14->n=0\/n=1)/\(op=14\/op=15->(x.n=0\/x.n=1)->(y.n=0\/y.n=1)->n=0\/n=1):=by
 have hb:∀b:Bool,(if b then(1:Int) else 0)=0\/(if b then(1:Int) else 0)=1:=fun b=>by cases b<;>simp
 have hr:∀b:Bool,bR (if b then(1:Int) else 0):=fun b=>by unfold bR;cases b<;>decide
 by_cases c10:op=10;subst c10;have h:=UO (X:=X) (decide (x.n=y.n));exact⟨if(decide (x.n=y.n))=true then 1 else 0,aI (fc:=wW) Hw rfl rfl (by simp at h;simp[wW,h]),hr _,fun _=>hb _,fun h=>by omega⟩;by_cases W4:op=11;subst W4;have h:=UO (X:=X) (!decide (x.n=y.n));exact⟨if(!decide (x.n=y.n))=true then 1 else 0,aI (fc:=wW) Hw rfl rfl (by simp at h;simp[wW,h]),hr _,fun _=>hb _,fun h=>by omega⟩;by_cases WZ:op=12;subst WZ;have h:=UO (X:=X) (decide (x.n<y.n));exact⟨if(decide (x.n<y.n))=true then 1 else 0,aI (fc:=wW) Hw rfl rfl (by simp at h;simp[wW,h]),hr _,fun _=>hb _,fun h=>by omega⟩;by_cases WY:op=13;subst WY;have h:=UO (X:=X) (decide (x.n<=y.n));exact⟨if(decide (x.n<=y.n))=true then 1 else 0,aI (fc:=wW) Hw rfl rfl (by simp at h;simp[wW,h]),hr _,fun _=>hb _,fun h=>by omega⟩;by_cases c14:op=14;subst c14;refine⟨IntKind.i64.wrap (x.n*y.n),aI (fc:=wW) Hw rfl rfl (by simp[wW]),bR.wrap _,fun h=>by omega,fun _ hx hy=> ?_⟩;rcases hx with hx|hx<;>rcases hy with hy|hy<;>rw[hx,hy]<;>decide;by_cases c15:op=15;subst c15;refine⟨if x.n<y.n then y.n else x.n,aI (fc:=wW) Hw rfl rfl (by simp[wW]),by split<;>assumption,fun h=>by omega,fun _ hx hy=> ?_⟩;split<;>assumption;by_cases c17:op=17;subst c17;exact⟨if y.n<x.n then y.n else x.n,aI (fc:=wW) Hw rfl rfl (by simp[wW]),by split<;>assumption,fun h=>by omega,fun h=>by omega⟩;exact⟨if x.n<y.n then y.n else x.n,aI (fc:=wW) Hw rfl rfl (by simp[wW,c10,W4,WZ,WY,c14,c15,uF,c17,BF]),by split<;>assumption,fun h=>by omega,fun h=>by omega⟩
def Pz (X:aU):Prop:=∀(op:Int) (l:List Vl),(op=9/\l.length=1\/op≠9/\l.length=2)->(∀x∈l,bR x.n)->∃n e:Int,O X 241 [.i .i64 op,.l (aB Vl.v l)]=some (.t [.i .i64 n,.i .i64 e])/\bR n
def eA6 (op:Int)(l:List Vl)(hl:l.length<=3):bP (O X) [0,1,4,6,16,17,18] TF [(0,.i .i64 op),(1,.l (aB Vl.v l)),(4,.bx [.i .i64 0,.i .i64 0]),(6,.ow 3 []),(16,.l (aB Vl.v l)),(17,.i .i64 l.length),(18,.i .i64 0)]=some (.e 0,[(0,.i .i64 op),(1,.l (aB Vl.v l)),(4,.bx [.i .i64 0,.i .i64 0]),(6,.ow 3 (bQ (l.map Vl.ty)))]):=by
 obtain⟨r,cW,rfl⟩:=dW (o:=O X) (kin:=[0,1,4,6,16,17,18]) (c:=TF) (fun i aA=>aA=[(0,.i .i64 op),(1,.l (aB Vl.v l)),(4,.bx [.i .i64 0,.i .i64 0]),(6,.ow 3 (bQ ((l.map Vl.ty).take i))),(16,.l (aB Vl.v l)),(17,.i .i64 l.length),(18,.i .i64 (i:Int))]) l.length (fun r=>r=(.e 0,[(0,.i .i64 op),(1,.l (aB Vl.v l)),(4,.bx [.i .i64 0,.i .i64 0]),(6,.ow 3 (bQ (l.map Vl.ty)))])) (fun i aA hI=>by subst hI;simp) (fun i aA hi hI=>by
  subst hI;left;have hw:=bC (i+1) (by omega);have h1:bQ ((l.map Vl.ty).take (i+1))=bQ ((l.map Vl.ty).take i)++[.i .i64 l[i].ty]:=by rw[H1 (by simpa using hi)];simp[aB]
  have h2:((bQ ((l.map Vl.ty).take i)).length+1)*8<=140737488355328:=by simp only[uJ,gO,uP];omega
  refine⟨_,?_,rfl⟩;rw[h1];generalize bQ ((l.map Vl.ty).take i)=Y at h2⊢;simp[TF,hi,hw,h2]) (fun aA hI=>by
  subst hI;refine⟨_,?_,?_,rfl⟩;have:(l.map Vl.ty).take l.length=l.map Vl.ty:=rM (by simp);rw[this];simp[TF];simp) l.length 0 [(0,.i .i64 op),(1,.l (aB Vl.v l)),(4,.bx [.i .i64 0,.i .i64 0]),(6,.ow 3 []),(16,.l (aB Vl.v l)),(17,.i .i64 l.length),(18,.i .i64 ((0:Nat):Int))] (by omega) rfl
 simpa using cW
def eA5 (op t:Int)(l:List Vl)(hl:l.length<=3):∃r,bP (O X) [0,1,4,9,37,38,39] P9 [(0,.i .i64 op),(1,.l (aB Vl.v l)),(4,.bx [.i .i64 0,.i .i64 0]),(9,.i .i64 t),(37,.l (aB Vl.v l)),(38,.i .i64 l.length),(39,.i .i64 0)]=some r/\(r=(.r,[(4,.bx [.i .i64 0,.i .i64 0]),(5,.i .i64 1)])\/(r=(.e 2,[(0,.i .i64 op),(1,.l (aB Vl.v l)),(4,.bx [.i .i64 0,.i .i64 0]),(9,.i .i64 t)])/\∀x∈l,x.ty=5->x.n=0\/x.n=1)):=by
 obtain⟨r,cW,hr⟩:=dW (o:=O X) (kin:=[0,1,4,9,37,38,39]) (c:=P9) (fun i aA=>aA=[(0,.i .i64 op),(1,.l (aB Vl.v l)),(4,.bx [.i .i64 0,.i .i64 0]),(9,.i .i64 t),(37,.l (aB Vl.v l)),(38,.i .i64 l.length),(39,.i .i64 (i:Int))]/\∀(k:Nat) (hk:k<l.length),k<i->l[k].ty=5->l[k].n=0\/l[k].n=1) l.length (fun r=>r=(.r,[(4,.bx [.i .i64 0,.i .i64 0]),(5,.i .i64 1)])\/(r=(.e 2,[(0,.i .i64 op),(1,.l (aB Vl.v l)),(4,.bx [.i .i64 0,.i .i64 0]),(9,.i .i64 t)])/\∀x∈l,x.ty=5->x.n=0\/x.n=1)) (fun i aA hI=>by obtain⟨rfl,_⟩:=hI;simp) (fun i aA hi hI=>by
  obtain⟨rfl,hz⟩:=hI;have hw:=bC (i+1) (by omega);obtain⟨u,hu,hp⟩:=Xn (X:=X) l[i];cases u with
  |true=>left;refine⟨_,by simp[P9,hi,hw,hu],rfl,fun k hk kY=> ?_⟩;by_cases e:k=i;subst e;exact hp rfl;exact hz k hk (by omega)
  |false=>
   right;exact⟨_,by simp[P9,hi,hu],by simp,.inl rfl⟩) (fun aA hI=>by
  obtain⟨rfl,hz⟩:=hI;refine⟨_,by simp[P9],by simp,.inr ⟨rfl,fun x hx=> ?_⟩⟩;obtain⟨k,hk,rfl⟩:=lH hx;exact hz k hk hk) l.length 0 [(0,.i .i64 op),(1,.l (aB Vl.v l)),(4,.bx [.i .i64 0,.i .i64 0]),(9,.i .i64 t),(37,.l (aB Vl.v l)),(38,.i .i64 l.length),(39,.i .i64 ((0:Nat):Int))] (by omega) ⟨rfl,fun k _ h=>absurd h (by omega)⟩
 exact⟨r,by simpa using cW,hr⟩
set_option maxHeartbeats 4000000 in
def cK3 (hC:Pz X)(op:Int)(l:List Vl)(t:Int)(h5:5<=op)(h18:op<=18)(aO:iG op=l.length)(hR:O X 239 [.i .i64 op,.l (bQ (l.map Vl.ty))]=some (.t [.i .i64 t,.b true]))(hP:cD7 op (l.map Vl.ty) t)(hr:∀x∈l,bR x.n):
  ∃ty n er:Int,O X 223 [.i .i64 op,.l (aB Vl.v l)]=some (.t [.a [.i .i64 ty,.i .i64 n],.i .i64 er])/\(er=0->ty=t/\bR n/\(t=5->n=0\/n=1)):=by
 have bT:(op=9\/op=16)/\l.length=1\/(op≠9/\op≠16)/\l.length=2:=by unfold iG at aO;split at aO;omega;split at aO;exact .inl ⟨by assumption,by omega⟩;split at aO;omega;split at aO;exact .inr ⟨by omega,by omega⟩;omega
 have hl3:l.length<=3:=by omega
 have l1:=eA6 (X:=X) op l hl3;obtain⟨r2,l2,nP⟩:=eA5 (X:=X) op t l hl3;rcases nP with rfl|⟨rfl,hv⟩;exact⟨0,0,1,aI (fc:=Fm) Qj rfl rfl (by
  generalize bQ (l.map Vl.ty)=T at l1 hR;simp[Fm,bA,l1,hR,l2]),by simp⟩
 by_cases hc:op<=9;obtain⟨n,e,h241,hnr⟩:=hC op l (by omega) hr;obtain⟨u,hu,hp⟩:=Xn (X:=X) ⟨t,n⟩;have oE:¬op<5:=by omega
 have eO:¬9<op:=by omega
 generalize bQ (l.map Vl.ty)=T at l1 hR;have hL:(aB Vl.v l).length=l.length:=uJ ..;generalize aB Vl.v l=L at l1 l2 h241 hL⊢;by_cases he:e=0;cases u with|true=>exact⟨t,n,0,aI (fc:=Fm) Qj rfl rfl (by simp[Fm,bA,l1,hR,l2,hL,oE,eO,h241,he,hu]),fun _=>⟨rfl,hnr,hp rfl⟩⟩|false=>exact⟨0,0,6,aI (fc:=Fm) Qj rfl rfl (by simp[Fm,bA,l1,hR,l2,hL,oE,eO,h241,he,hu]),by simp⟩
 exact⟨0,0,e,aI (fc:=Fm) Qj rfl rfl (by simp[Fm,bA,l1,hR,l2,hL,oE,eO,h241,he]),fun h=>absurd h he⟩;have oE:¬op<5:=by omega
 have eO:9<op:=by omega
 obtain⟨n,h240,hnr,hn⟩:∃n:Int,O X 240 [.i .i64 op,.l (aB Vl.v l)]=some (.i .i64 n)/\bR n/\(t=5->n=0\/n=1):=by
  match l,bT,hv,hP,hr with
  |[x],bT,hv,hP,_=>
   obtain rfl:op=16:=by first |(simp at bT;omega)|(simp at bT)
   refine⟨_,cJ7 x,bR.wrap _,fun _=> ?_⟩;have h1:=hP.1 x.ty rfl;have h2:=hv x (List.mem_singleton_self _) (by omega);rcases h2 with h2|h2<;>rw[h2]<;>decide
  |[x,y],bT,hv,hP,hr=>
   have uF:op≠16:=by first |(simp at bT;omega)|(simp at bT;exact bT.2)|(simp at bT)
   obtain⟨n,h,pr,p1,p2⟩:=cJ6 (X:=X) op eO uF (by omega) x y (hr x (by simp)) (hr y (by simp));refine⟨n,h,pr,fun ht=> ?_⟩;obtain⟨q1,q2⟩:=hP.2.1 x.ty y.ty rfl;by_cases c1:op<14;exact p1 c1;by_cases c2:op=14\/op=15;have:=q1 c2;exact p2 c2 (hv x (by simp) this.1) (hv y (by simp) this.2);exact absurd ht (q2 (by omega))
  |[],bT,_,_,_=>simp at bT|_::_::_::_,bT,_,_,_=>simp at bT
 generalize bQ (l.map Vl.ty)=T at l1 hR;have hL:(aB Vl.v l).length=l.length:=uJ ..;generalize aB Vl.v l=L at l1 l2 h240 hL⊢;exact⟨t,n,0,aI (fc:=Fm) Qj rfl rfl (by simp[Fm,bA,l1,hR,l2,hL,oE,eO,h240]),fun _=>⟨rfl,hnr,hn⟩⟩
def T3 (X:aU)(vs en:List V)(ys:List V):Prop:=∃a b:Int,O X 221 [.a ys,.l vs]=some (.t [.i .i64 a,.i .i64 b])/\(b=0->∃ty n er:Int,O X 199 [.a ys,.l vs,.l en]=some (.t [.a [.i .i64 ty,.i .i64 n],.i .i64 er])/\(er=0->ty=a/\bR n/\(a=5->n=0\/n=1)))
def cO5 (vs en:List V)(op k:Int)(hk:bR k)(s:List UInt8)(h:op=1\/op=2\/op=3)(aR:List (List V)):T3 X vs en (xc op k s aR):=by
 have h221:O X 221 [.a (xc op k s aR),.l vs]=some (.t [.i .i64 op,.i .i64 0]):=by refine aI (fc:=Fo) Qk rfl rfl ?_;rcases h with rfl|rfl|rfl<;>simp[Fo]
 have Rf:O X 199 [.a (xc op k s aR),.l vs,.l en]=some (.t [.a [.i .i64 op,.i .i64 k],.i .i64 0]):=by refine aI (fc:=BL) Li rfl rfl ?_;rcases h with rfl|rfl|rfl<;>simp[BL]
 exact⟨op,0,h221,fun _=>⟨op,k,0,Rf,fun _=>⟨rfl,hk,fun h5=>by omega⟩⟩⟩
def eA7 (vs:List V)(op k:Int)(s:List UInt8)(aR:List (List V))(hl:aR.length<=3)(h4:∀zs∈aR,zs.length=4/\((∀y∈zs,y.cell=true)=True))(hz:∀zs∈aR,∃a b:Int,O X 221 [.a zs,.l vs]=some (.t [.i .i64 a,.i .i64 b])):
  ∃r,bP (O X) [1,2,6,30,31,32] vA [(1,.l vs),(2,.bx (xc op k s aR)),(6,.ow 3 []),(30,.l (aR.map V.a)),(31,.i .i64 aR.length),(32,.i .i64 0)]=some r/\((∃b:Int,r=(.r,[(4,.i .i64 0),(5,.i .i64 b)])/\b≠0)\/∃ts:List Int,r=(.e 1,[(2,.bx (xc op k s aR)),(6,.ow 3 (bQ ts))])/\ts.length=aR.length/\∀(j:Nat) (h1:j<aR.length) (h2:j<ts.length),O X 221 [.a aR[j],.l vs]=some (.t [.i .i64 ts[j],.i .i64 0])):=by
 have:=dW (o:=O X) (kin:=[1,2,6,30,31,32]) (c:=vA) (fun i aA=>∃ts:List Int,ts.length=i/\aA=[(1,.l vs),(2,.bx (xc op k s aR)),(6,.ow 3 (bQ ts)),(30,.l (aR.map V.a)),(31,.i .i64 aR.length),(32,.i .i64 (i:Int))]/\∀(j:Nat) (h1:j<aR.length) (h2:j<ts.length),O X 221 [.a aR[j],.l vs]=some (.t [.i .i64 ts[j],.i .i64 0])) aR.length (fun r=>(∃b:Int,r=(.r,[(4,.i .i64 0),(5,.i .i64 b)])/\b≠0)\/∃ts:List Int,r=(.e 1,[(2,.bx (xc op k s aR)),(6,.ow 3 (bQ ts))])/\ts.length=aR.length/\∀(j:Nat) (h1:j<aR.length) (h2:j<ts.length),O X 221 [.a aR[j],.l vs]=some (.t [.i .i64 ts[j],.i .i64 0])) (fun i aA hI=>by obtain⟨ts,_,rfl,_⟩:=hI;simp) (fun i aA hi hI=>by
  obtain⟨ts,FP,rfl,hj⟩:=hI;have hw:=bC (i+1) (by omega);obtain⟨a,b,fW⟩:=hz _ (gN hi);obtain⟨EK,cK⟩:=h4 _ (gN hi);by_cases hb:b=0;left;subst hb;refine⟨[(1,.l vs),(2,.bx (xc op k s aR)),(6,.ow 3 (bQ (ts++[a]))),(30,.l (aR.map V.a)),(31,.i .i64 aR.length),(32,.i .i64 ((i+1:Nat):Int))],?_,ts++[a],by simp[FP],rfl,fun j h1 h2=> ?_⟩;have h2:(ts.length+1)*8<=140737488355328:=by omega
  simp[vA,hi,hw,fW,EK,cK,h2];simp[aB];by_cases e:j<ts.length;rw[List.getElem_append_left e];exact hj j h1 e;have:j=ts.length:=by simp at h2;omega
  subst this;subst FP;simpa using fW;right;exact⟨(.r,[(4,.i .i64 0),(5,.i .i64 b)]),by simp[vA,hi,fW,EK,cK,hb],by simp,.inl ⟨b,rfl,hb⟩⟩) (fun aA hI=>by
  obtain⟨ts,FP,rfl,hj⟩:=hI;exact⟨(.e 1,[(2,.bx (xc op k s aR)),(6,.ow 3 (bQ ts))]),by simp[vA],by simp,.inr ⟨ts,rfl,FP,hj⟩⟩) aR.length 0 [(1,.l vs),(2,.bx (xc op k s aR)),(6,.ow 3 []),(30,.l (aR.map V.a)),(31,.i .i64 aR.length),(32,.i .i64 ((0:Nat):Int))] (by omega) ⟨[],rfl,rfl,fun j _ h=>absurd h (by simp)⟩
 simpa using this
def eB1 (vs en:List V)(op k:Int)(s:List UInt8)(aR:List (List V))(ts:List Int)(FP:ts.length=aR.length)(hl:aR.length<=3)(h4:∀zs∈aR,zs.length=4/\((∀y∈zs,y.cell=true)=True))(hz:∀(j:Nat) (h1:j<aR.length) (h2:j<ts.length),∃ty n er:Int,O X 199 [.a aR[j],.l vs,.l en]=some (.t [.a [.i .i64 ty,.i .i64 n],.i .i64 er])/\(er=0->ty=ts[j]/\bR n)):
  ∃r,bP (O X) [1,2,3,6,12,82,83,84] Pf [(1,.l vs),(2,.l en),(3,.bx (xc op k s aR)),(6,.bx [.i .i64 0,.i .i64 0]),(12,.ow 230 []),(82,.l (aR.map V.a)),(83,.i .i64 aR.length),(84,.i .i64 0)]=some r/\((∃e:Int,r=(.r,[(6,.bx [.i .i64 0,.i .i64 0]),(7,.i .i64 e)])/\e≠0)\/∃l:List Vl,r=(.e 3,[(3,.bx (xc op k s aR)),(6,.bx [.i .i64 0,.i .i64 0]),(12,.ow 230 (aB Vl.v l))])/\l.map Vl.ty=ts/\∀x∈l,bR x.n):=by
 have:=dW (o:=O X) (kin:=[1,2,3,6,12,82,83,84]) (c:=Pf) (fun i aA=>∃l:List Vl,l.length=i/\aA=[(1,.l vs),(2,.l en),(3,.bx (xc op k s aR)),(6,.bx [.i .i64 0,.i .i64 0]),(12,.ow 230 (aB Vl.v l)),(82,.l (aR.map V.a)),(83,.i .i64 aR.length),(84,.i .i64 (i:Int))]/\l.map Vl.ty=ts.take i/\∀x∈l,bR x.n) aR.length (fun r=>(∃e:Int,r=(.r,[(6,.bx [.i .i64 0,.i .i64 0]),(7,.i .i64 e)])/\e≠0)\/∃l:List Vl,r=(.e 3,[(3,.bx (xc op k s aR)),(6,.bx [.i .i64 0,.i .i64 0]),(12,.ow 230 (aB Vl.v l))])/\l.map Vl.ty=ts/\∀x∈l,bR x.n) (fun i aA hI=>by obtain⟨l,_,rfl,_⟩:=hI;simp) (fun i aA hi hI=>by
  obtain⟨l,zG,rfl,hm,hR⟩:=hI;have hw:=bC (i+1) (by omega);obtain⟨ty,n,er,hv,he⟩:=hz i hi (by omega);obtain⟨EK,cK⟩:=h4 _ (gN hi);by_cases hb:er=0;left;subst hb;refine⟨[(1,.l vs),(2,.l en),(3,.bx (xc op k s aR)),(6,.bx [.i .i64 0,.i .i64 0]),(12,.ow 230 (aB Vl.v (l++[⟨ty,n⟩]))),(82,.l (aR.map V.a)),(83,.i .i64 aR.length),(84,.i .i64 ((i+1:Nat):Int))],?_,l++[⟨ty,n⟩],by simp[zG],rfl,?_,?_⟩;have h2:(l.length+1)*16<=140737488355328:=by omega
  simp[Pf,hi,hw,hv,EK,cK,h2];simp[aB];rw[H1 (by omega),HZ,hm];simp[(he rfl).1];intro x hx;rcases iC.1 hx with hx|hx;exact hR x hx;obtain rfl:=uQ.1 hx;exact(he rfl).2;right;exact⟨(.r,[(6,.bx [.i .i64 0,.i .i64 0]),(7,.i .i64 er)]),by simp[Pf,hi,hv,EK,cK,hb],by simp,.inl ⟨er,rfl,hb⟩⟩) (fun aA hI=>by
  obtain⟨l,zG,rfl,hm,hR⟩:=hI;exact⟨(.e 3,[(3,.bx (xc op k s aR)),(6,.bx [.i .i64 0,.i .i64 0]),(12,.ow 230 (aB Vl.v l))]),by simp[Pf],by simp,.inr ⟨l,rfl,by rw[hm,rM (by omega)],hR⟩⟩) aR.length 0 [(1,.l vs),(2,.l en),(3,.bx (xc op k s aR)),(6,.bx [.i .i64 0,.i .i64 0]),(12,.ow 230 (aB Vl.v [])),(82,.l (aR.map V.a)),(83,.i .i64 aR.length),(84,.i .i64 ((0:Nat):Int))] (by omega) ⟨[],rfl,rfl,by simp,by simp⟩
 simpa using this
def bM7 {α:Type}:∀(l:List α),l.length=3->∃a b c,l=[a,b,c]
 |[a,b,c],_=>⟨a,b,c,rfl⟩|[],h=>by simp at h|[_],h=>by simp at h|[_,_],h=>by simp at h|_::_::_::_::_,h=>by simp at h
def dM4 (op:Int)(h:18<op)(BF:op≠19):iG op= -1:=by unfold iG;rw[aK (by omega),aK (by omega),aK (by omega),aK (by omega)]
set_option maxHeartbeats 8000000 in
def cO4 (hT:NP X)(hC:Pz X)(vs en:List V)(op k:Int)(s:List UInt8)(aR:List (List V))(h5:5<=op)(aO:iG op=aR.length)(h4:∀zs∈aR,zs.length=4/\((∀y∈zs,y.cell=true)=True))(hz:∀zs∈aR,T3 X vs en zs):T3 X vs en (xc op k s aR):=by
 have hl:aR.length<=3:=by unfold iG at aO;split at aO;omega;split at aO;omega;split at aO;omega;split at aO<;>omega
 obtain⟨r1,h1,iI⟩:=eA7 (X:=X) vs op k s aR hl h4 (fun zs gP=>by obtain⟨a,b,h,_⟩:=hz zs gP;exact⟨a,b,h⟩);have hle19:op<=19:=by unfold iG at aO;split at aO;omega;split at aO;omega;split at aO;omega;split at aO<;>omega
 have n1:op≠1:=by omega
 have n2:op≠2:=by omega
 have n3:op≠3:=by omega
 have n4:op≠4:=by omega
 rcases iI with⟨b,rfl,hb⟩|⟨ts,rfl,FP,hj⟩;exact⟨0,b,aI (fc:=Fo) Qk rfl rfl (by simp[Fo,bA,h1,n1,n2,n3,n4]),fun h=>absurd h hb⟩;obtain⟨t,u,h239,hP⟩:=cJ8 hT op ts (by omega) (by omega) hle19;cases u with|false=>exact⟨0,3,aI (fc:=Fo) Qk rfl rfl (by simp[Fo,bA,h1,n1,n2,n3,n4,h239]),fun h=>by omega⟩|true=>
 have hR:=hP rfl;refine⟨t,0,aI (fc:=Fo) Qk rfl rfl (by simp[Fo,bA,h1,n1,n2,n3,n4,h239]),fun _=> ?_⟩;have gC:∀(j:Nat) (h1:j<aR.length) (h2:j<ts.length),∃ty n er:Int,O X 199 [.a aR[j],.l vs,.l en]=some (.t [.a [.i .i64 ty,.i .i64 n],.i .i64 er])/\(er=0->ty=ts[j]/\bR n/\(ts[j]=5->n=0\/n=1)):=fun j h1 h2=>by obtain⟨a,b,fW,hv⟩:=hz _ (gN h1);have:=hj j h1 h2;rw[fW] at this;simp only[aH,V.t.injEq,gG,V.i.injEq,LN,jJ] at this;obtain⟨rfl,rfl⟩:=this;exact hv rfl
 by_cases BF:op=19;subst BF;have hl3:aR.length=3:=by simp[iG] at aO;omega
 obtain⟨z0,z1,z2,rfl⟩:=bM7 aR hl3;obtain⟨a,b,c,rfl⟩:=bM7 ts (by rw[FP];rfl);obtain⟨rfl,rfl,rfl⟩:=hR.2.2 a b c rfl;obtain⟨ty0,m0,e0,v0,p0⟩:=gC 0 (by simp) (by simp);obtain⟨ty1,m1,e1,v1,p1⟩:=gC 1 (by simp) (by simp);obtain⟨ty2,m2,e2,v2,p2⟩:=gC 2 (by simp) (by simp);obtain⟨k0,_⟩:=h4 z0 (by simp);obtain⟨k1,_⟩:=h4 z1 (by simp);obtain⟨k2,_⟩:=h4 z2 (by simp);simp only[Tu,Tt] at v0 v1 v2 p0 p1 p2;by_cases c0:e0=0;subst c0;obtain⟨_,_,hm⟩:=p0 rfl;have q1:IntKind.i64.wrap 1=1:=rfl;have q2:IntKind.i64.wrap 2=2:=rfl;rcases hm trivial with rfl|rfl;exact⟨ty2,m2,e2,aI (fc:=BL) Li rfl rfl (by simp[BL,v0,v2,k0,k2,q1,q2]),p2⟩;exact⟨ty1,m1,e1,aI (fc:=BL) Li rfl rfl (by simp[BL,v0,v1,k0,k1,q1,q2]),p1⟩;exact⟨0,0,e0,aI (fc:=BL) Li rfl rfl (by simp[BL,v0,k0,c0]),fun h=>absurd h c0⟩;obtain⟨r2,h2,nP⟩:=eB1 (X:=X) vs en op k s aR ts FP hl h4 (fun j h1 h2=>by
  obtain⟨ty,n,er,hv,hp⟩:=gC j h1 h2;exact⟨ty,n,er,hv,fun h=>⟨(hp h).1,(hp h).2.1⟩⟩)
 rcases nP with⟨e,rfl,he⟩|⟨l,rfl,hm,hRl⟩;exact⟨0,0,e,aI (fc:=BL) Li rfl rfl (by simp[BL,bA,h2,n1,n2,n3,n4,BF]),fun h=>absurd h he⟩;have h18:op<=18:=by rcases Int.lt_or_le 18 op with h|h;have:=dM4 op h BF;omega;exact h
 have hll:l.length=aR.length:=by rw[<-FP,<-hm,uP]
 subst hm;obtain⟨ty,n,er,h223,hp⟩:=cK3 hC op l t h5 h18 (by rw[hll];exact aO) h239 hR hRl;exact⟨ty,n,er,aI (fc:=BL) Li rfl rfl (by simp[BL,bA,h2,n1,n2,n3,n4,BF,h223]),hp⟩
def cD5 (X:aU)(N:List (List UInt8))(vs en:List V):Prop:=∀(k:Int) (s:List UInt8),s∈N->T3 X vs en (xc 4 k s [])
def aU6 (hT:NP X)(hC:Pz X)(N:List (List UInt8))(vs en:List V)(hV:cD5 X N vs en):∀(n:Nat) (ys:List V),uN (NF N) n ys->T3 X vs en ys
 |0,_,h=>h.elim
 |n+1,_,h=>by
  obtain⟨op,k,s,aR,rfl,hl,⟨⟨aO,hk0,nQ⟩,hs⟩,hz⟩:=h;by_cases h3:op=1\/op=2\/op=3;exact cO5 vs en op k (by unfold bR;omega) s h3 aR;by_cases h4:op=4;subst h4;have:aR=[]:=by have:(0:Int)=aR.length:=aO;exact List.length_eq_zero_iff.1 (by omega)
  subst this;exact hV k s (hs rfl);have h5:5<=op:=by unfold iG at aO;split at aO;omega;split at aO;omega;split at aO;omega;split at aO<;>omega
  exact cO4 hT hC vs en op k s aR h5 aO (fun zs gP=>⟨(hz zs gP).len,(hz zs gP).cl⟩) (fun zs gP=>aU6 hT hC N vs en hV n zs (hz zs gP))
def At (vs:List Va)(s:List UInt8)(i:Nat):Prop:=∃hi:i<vs.length,vs[i].name=s/\∀(j:Nat) (hj:j<vs.length),j<i->vs[j].name≠s
def cA4:∀(vs:List Va) (s:List UInt8),s∈vs.map Va.name->∃i,At vs s i
 |[],_,h=>by simp at h
 |v::vs,s,h=>by
  by_cases c:v.name=s;exact⟨0,by simp,c,fun j _ h=>absurd h (QL _)⟩;have h':s∈vs.map Va.name:=by rcases eP.1 (by simpa using h:s∈v.name::vs.map Va.name) with h|h;exact absurd h.symm c;exact h
  obtain⟨i,hi,h1,h2⟩:=cA4 vs s h';refine⟨i+1,by simp;omega,by simpa using h1,fun j hj hji=> ?_⟩;cases j with|zero=>simpa using c|succ j=>simpa using h2 j (by simp at hj;omega) (by omega)
def cJ9 (vs:List Va)(hv:vs.length<=1000)(s:List UInt8)(i:Nat)(h:At vs s i):∃a b:Int,O X 238 [.s s,.l (aB Va.v vs)]=some (.t [.i .i64 a,.i .i64 b])/\(b=0->a=(vs[i]'h.1).ty):=by
 obtain⟨hi,hn,hj⟩:=h;have I6:=QP (X:=X) vs[i].ty;obtain⟨r,hl,hr⟩:=dW (o:=O X) (kin:=[0,8,9,10]) (c:=TE) (fun k aA=>aA=[(0,.s s),(8,.l (aB Va.v vs)),(9,.i .i64 vs.length),(10,.i .i64 (k:Int))]/\k<=i) vs.length (fun r=>∃a b:Int,r=(.r,[(4,.i .i64 a),(5,.i .i64 b)])/\(b=0->a=vs[i].ty)) (fun k aA hI=>by obtain⟨rfl,_⟩:=hI;simp) (fun k aA hk hI=>by
  obtain⟨rfl,kY⟩:=hI;have hw:=bC (k+1) (by omega);by_cases e:k=i;subst e;right;by_cases c:1<=vs[k].ty/\vs[k].ty<=5;rw[yS c] at I6;exact⟨(.r,[(4,.i .i64 vs[k].ty),(5,.i .i64 0)]),by simp[TE,hk,hn,I6],by simp,_,_,rfl,fun _=>rfl⟩;rw[zT c] at I6;exact⟨(.r,[(4,.i .i64 0),(5,.i .i64 3)]),by simp[TE,hk,hn,I6],by simp,_,_,rfl,fun h=>absurd h (by decide)⟩;left;have bM:=hj k hk (by omega);exact⟨_,by simp[TE,hk,bM,hw],rfl,by omega⟩) (fun aA hI=>by
  obtain⟨rfl,h⟩:=hI;omega) vs.length 0 [(0,.s s),(8,.l (aB Va.v vs)),(9,.i .i64 vs.length),(10,.i .i64 ((0:Nat):Int))] (by omega) ⟨rfl,by omega⟩
 obtain⟨a,b,rfl,hb⟩:=hr;simp only[fU] at hl;exact⟨a,b,aI (fc:=aI9) cS5 rfl rfl (by simp[aI9,bA,hl]),hb⟩
structure N0 (vs:List Va) (en:List Vl):Prop where
 len:en.length=vs.length
 fit:∀(i:Nat) (h1:i<vs.length) (h2:i<en.length),en[i].ty=vs[i].ty/\bR en[i].n/\en[i].ty≠5
def cK8 (vs:List Va)(hv:vs.length<=1000)(en:List Vl)(hf:N0 vs en)(k:Int)(s:List UInt8)(i:Nat)(h:At vs s i):O X 199 [.a (xc 4 k s []),.l (aB Va.v vs),.l (aB Vl.v en)]=some (.t [(en[i]'(by rw[hf.len];exact h.1)).v,.i .i64 0]):=by
 obtain⟨hi,hn,hj⟩:=h;have EC:i<en.length:=by rw[hf.len];exact hi
 obtain⟨r,hl,rfl⟩:=dW (o:=O X) (kin:=[1,2,3,6,36,37,38]) (c:=Wo) (fun m aA=>aA=[(1,.l (aB Va.v vs)),(2,.l (aB Vl.v en)),(3,.bx (xc 4 k s [])),(6,.bx [.i .i64 0,.i .i64 0]),(36,.l (aB Va.v vs)),(37,.i .i64 vs.length),(38,.i .i64 (m:Int))]/\m<=i) vs.length (fun r=>r=(.r,[(6,.bx en[i].cells),(7,.i .i64 0)])) (fun k aA hI=>by obtain⟨rfl,_⟩:=hI;simp) (fun m aA hk hI=>by
  obtain⟨rfl,kY⟩:=hI;have hw:=bC (m+1) (by omega);by_cases e:m=i;subst e;right;exact⟨(.r,[(6,.bx en[m].cells),(7,.i .i64 0)]),by simp[Wo,hk,hn,EC],by simp,rfl⟩;left;have bM:=hj m hk (by omega);exact⟨_,by simp[Wo,hk,bM,hw],rfl,by omega⟩) (fun aA hI=>by
  obtain⟨rfl,h⟩:=hI;omega) vs.length 0 [(1,.l (aB Va.v vs)),(2,.l (aB Vl.v en)),(3,.bx (xc 4 k s [])),(6,.bx [.i .i64 0,.i .i64 0]),(36,.l (aB Va.v vs)),(37,.i .i64 vs.length),(38,.i .i64 ((0:Nat):Int))] (by omega) ⟨rfl,by omega⟩
 simp only[fU] at hl;exact aI (fc:=BL) Li rfl rfl (by simp[BL,bA,hl])
def cH3 (vs:List Va)(hv:vs.length<=1000)(en:List Vl)(hf:N0 vs en):cD5 X (vs.map Va.name) (aB Va.v vs) (aB Vl.v en):=by
 intro k s hs;obtain⟨i,h⟩:=cA4 vs s hs;obtain⟨a,b,h238,hb⟩:=cJ9 (X:=X) vs hv s i h;have Rf:=cK8 (X:=X) vs hv en hf k s i h;have EC:i<en.length:=by rw[hf.len];exact h.1
 obtain⟨f1,f2,f3⟩:=hf.fit i h.1 EC;refine⟨a,b,aI (fc:=Fo) Qk rfl rfl (by simp[Fo,h238]),fun h0=>⟨en[i].ty,en[i].n,0,Rf,fun _=>⟨by rw[f1,hb h0],f2,fun h5=>absurd ?_ f3⟩⟩⟩;rw[f1,<-hb h0,h5]
def cL0 (vs:List Va)(hv:vs.length<=64)(h:∀v∈vs,∃e:Int,O X 219 [.a (xc 4 0 v.name [])]=some (.i .i64 e)):∃e:Int,O X 196 [.l (aB Va.v vs)]=some (.i .i64 e):=by
 have h64:¬(64:Int)<(vs.length:Int):=by omega
 have inner:∀(i:Nat) (hi:i<vs.length),∃r,bP (O X) [0,4,10,11,12,24,25,26] Ph [(0,.l (aB Va.v vs)),(4,.bx vs[i].cells),(10,.l (aB Va.v vs)),(11,.i .i64 vs.length),(12,.i .i64 (i:Int)),(24,.l (aB Va.v (vs.take i))),(25,.i .i64 (i:Int)),(26,.i .i64 0)]=some r/\(r=(.r,[(2,.i .i64 12)])\/r=(.e 2,[(0,.l (aB Va.v vs)),(4,.bx vs[i].cells),(10,.l (aB Va.v vs)),(11,.i .i64 vs.length),(12,.i .i64 (i:Int))])):=by
  intro i hi;have kW:(vs.take i).length=i:=by rw[gO];omega
  have:=Dt (o:=O X) (kin:=[0,4,10,11,12,24,25,26]) (c:=Ph) (fun j=>[(0,.l (aB Va.v vs)),(4,.bx vs[i].cells),(10,.l (aB Va.v vs)),(11,.i .i64 vs.length),(12,.i .i64 (i:Int)),(24,.l (aB Va.v (vs.take i))),(25,.i .i64 (i:Int)),(26,.i .i64 (j:Int))]) i (fun r=>r=(.r,[(2,.i .i64 12)])\/r=(.e 2,[(0,.l (aB Va.v vs)),(4,.bx vs[i].cells),(10,.l (aB Va.v vs)),(11,.i .i64 vs.length),(12,.i .i64 (i:Int))])) (by simp) (fun j hj=>by
   have hw:=bC (j+1) (by omega);have pE:j<(vs.take i).length:=by omega
   generalize vs.take i=T at pE kW⊢;by_cases c:T[j].name=vs[i].name;exact .inr ⟨_,by simp[Ph,hj,pE,c],by simp,.inl rfl⟩;exact .inl (by simp[Ph,hj,pE,c,hw])) ⟨_,by simp[Ph];rfl,by simp,.inr rfl⟩
  simpa using this
 obtain⟨r,hl,hr⟩:=Dt (o:=O X) (kin:=[0,10,11,12]) (c:=NA) (fun i=>[(0,.l (aB Va.v vs)),(10,.l (aB Va.v vs)),(11,.i .i64 vs.length),(12,.i .i64 (i:Int))]) vs.length (fun r=>(∃e:Int,r=(.r,[(2,.i .i64 e)]))\/r=(.e 0,[])) (by simp) (fun i hi=>by
  have hw:=bC (i+1) (by omega);obtain⟨e,he⟩:=h _ (gN hi);simp only[xc,oF] at he;have I6:=QP (X:=X) vs[i].ty;have hs:=Uv Va.v 2 (fun _=>rfl) (O X) vs i (by omega);have kW:(vs.take i).length=i:=by rw[gO];omega
  obtain⟨r,hl,hr⟩:=inner i hi;have iR:(aB Va.v (vs.take i)).length=i:=by rw[uJ,kW]
  generalize aB Va.v (vs.take i)=T at hs hl iR;by_cases h0:e=0;subst h0;rcases hr with rfl|rfl;exact .inr ⟨(.r,[(2,.i .i64 12)]),by simp[NA,bA,hi,he,hs,iR,hl],by simp,.inl ⟨_,rfl⟩⟩;by_cases c:1<=vs[i].ty/\vs[i].ty<=5;rw[yS c] at I6;exact .inl (by simp[NA,bA,hi,he,hs,iR,hl,I6,hw]);rw[zT c] at I6;exact .inr ⟨(.r,[(2,.i .i64 3)]),by simp[NA,bA,hi,he,hs,iR,hl,I6],by simp,.inl ⟨_,rfl⟩⟩;exact .inr ⟨(.r,[(2,.i .i64 4)]),by simp[NA,hi,he,h0],by simp,.inl ⟨_,rfl⟩⟩) ⟨(.e 0,[]),by simp[NA],by simp,.inr rfl⟩
 simp only[fU] at hl;rcases hr with⟨e,rfl⟩|rfl;exact⟨e,aI (fc:=S8) aX4 rfl rfl (by simp[S8,bA,h64,hl])⟩;exact⟨0,aI (fc:=S8) aX4 rfl rfl (by simp[S8,bA,h64,hl])⟩
def cK9 (vs:List Va)(en:List Vl)(hl:en.length=vs.length)(hv:vs.length<=64):∃t:Bool,O X 198 [.l (aB Va.v vs),.l (aB Vl.v en)]=some (.b t):=by
 obtain⟨r,cW,hr⟩:=Dt (o:=O X) (kin:=[0,12,13,14]) (c:=Pg) (fun i=>[(0,.l (aB Va.v vs)),(12,.l (aB Vl.v en)),(13,.i .i64 en.length),(14,.i .i64 (i:Int))]) en.length (fun r=>r=(.r,[(4,.b false)])\/r=(.e 0,[])) (by simp) (fun i hi=>by
  have hw:=bC (i+1) (by omega);have hiv:i<vs.length:=by omega
  obtain⟨t,ht,_⟩:=Xn (X:=X) en[i];by_cases c:en[i].ty=vs[i].ty;simp only[Vl.v,c] at ht;cases t with|true=>exact .inl (by simp[Pg,hi,hiv,c,ht,hw])|false=>exact .inr ⟨(.r,[(4,.b false)]),by simp[Pg,hi,hiv,c,ht],by simp,.inl rfl⟩
  exact .inr ⟨(.r,[(4,.b false)]),by simp[Pg,hi,hiv,c],by simp,.inl rfl⟩) ⟨(.e 0,[]),by simp[Pg],by simp,.inr rfl⟩
 simp only[fU] at cW;rcases hr with rfl|rfl;exact⟨false,aI (fc:=S6) aX2 rfl rfl (by simp[S6,bA,hl];simp[hl] at cW;simp[cW])⟩;exact⟨true,aI (fc:=S6) aX2 rfl rfl (by simp[S6,bA,hl];simp[hl] at cW;simp[cW])⟩
def OP (X:aU):Prop:=∀s∈vars.map Va.name,∃t:Bool,O X 255 [.s s]=some (.b t)
def WE:List V:=[.s [98,97,108,97,110,99,101],.s [108,111,119,101,115,116],.s [118,111,108,117,109,101],.s [97,109,111,117,110,116]]
def WC:List V:=[.s [99,111,117,110,116],.s [97,103,101]]
def eB8:bP (O X) [1,6,7] ZL [(1,.ow 272 []),(6,.a WE),(7,.i .i64 0)]=some (.e 0,[(1,.ow 272 (aB Va.v (vars.take 4)))]):=by
 obtain⟨r,hl,rfl⟩:=Dt (o:=O X) (kin:=[1,6,7]) (c:=ZL) (fun i=>[(1,.ow 272 (aB Va.v (vars.take i))),(6,.a WE),(7,.i .i64 (i:Int))]) 4 (fun r=>r=(.e 0,[(1,.ow 272 (aB Va.v (vars.take 4)))])) (by simp) (fun i hi=>by
  left;rcases i with _|_|_|_|i;kernel_rfl;kernel_rfl;kernel_rfl;kernel_rfl;omega) ⟨_,by kernel_rfl,by simp,rfl⟩
 exact hl
def eB7:bP (O X) [1,16,17] ZS [(1,.ow 272 (aB Va.v (vars.take 4))),(16,.a WC),(17,.i .i64 0)]=some (.e 2,[(1,.ow 272 (aB Va.v (vars.take 6)))]):=by
 obtain⟨r,hl,rfl⟩:=Dt (o:=O X) (kin:=[1,16,17]) (c:=ZS) (fun i=>[(1,.ow 272 (aB Va.v (vars.take (4+i)))),(16,.a WC),(17,.i .i64 (i:Int))]) 2 (fun r=>r=(.e 2,[(1,.ow 272 (aB Va.v (vars.take 6)))])) (by simp) (fun i hi=>by
  left;rcases i with _|_|i;kernel_rfl;kernel_rfl;omega) ⟨_,by kernel_rfl,by simp,rfl⟩
 exact hl
def dQ2:O X 160 []=some (.ow 272 (aB Va.v vars)):=by have h1:=eB8 (X:=X);have h2:=eB7 (X:=X);have h3:aB Va.v (vars.take 6)++[.a [.s [100,97,121],.i .i64 4]]=aB Va.v vars:=rfl;have h4:(aB Va.v (vars.take 6)).length=6:=rfl;rw[<-h3];generalize aB Va.v (vars.take 4)=A at h1 h2;generalize aB Va.v (vars.take 6)=B at h2 h4⊢;simp only[WE,WC] at h1 h2;exact aI (fc:=aL9) cU9 rfl rfl (by simp[aL9,bA,h1,h2,h4])
def cL7 (hN:OP X)(hT:NP X)(hC:Pz X)(ys:List V)(h:XN ys)(en:List Vl)(hf:N0 vars en):∃ty n er:Int,O X 159 [.a ys,.l (aB Va.v vars),.l (aB Vl.v en)]=some (.t [.a [.i .i64 ty,.i .i64 n],.i .i64 er]):=by
 have hv:vars.length<=64:=by decide
 obtain⟨k,hk,hTr,hNm⟩:=h;obtain⟨e1,h1⟩:=cL0 (X:=X) vars hv (fun v hv=>by
  obtain⟨e,he,_⟩:=aT5 (X:=X) (vars.map Va.name) hN 1 (by omega) (xc 4 0 v.name []) (Tr.mk 4 0 v.name [] [] rfl (fun i h=>absurd h (QL _))) ⟨4,0,v.name,[],rfl,fun _=>jL.2 ⟨v,hv,rfl⟩,fun _ _ _ h=>absurd rfl h⟩;exact⟨e,he⟩)
 obtain⟨e2,h2,hE⟩:=aT5 (X:=X) (vars.map Va.name) hN k hk ys hTr hNm;obtain⟨t,h3⟩:=cK9 (X:=X) vars en hf.len hv;have hVar:=cH3 (X:=X) vars (by omega) en hf;obtain⟨op,j,s,aR,rfl,_⟩:=hTr.cells;generalize aB Va.v vars=vs at h1 h3 hVar⊢;generalize aB Vl.v en=es at h3 hVar⊢;by_cases c1:e1=0
 rotate_left
 exact⟨0,0,e1,aI (fc:=Fr) Qn rfl rfl (by simp[Fr,h1,c1])⟩;subst c1;by_cases c2:e2=0
 rotate_left
 have Rg:O X 197 [.a (xc op j s aR),.l vs]=some (.t [.i .i64 0,.i .i64 e2]):=aI (fc:=S7) aX3 rfl rfl (by simp[S7,h2,c2]);exact⟨0,0,e2,aI (fc:=Fr) Qn rfl rfl (by simp[Fr,h1,Rg,c2])⟩;subst c2;obtain⟨a,b,h221,dZ⟩:=aU6 hT hC (vars.map Va.name) vs es hVar k _ (hE rfl);have Rg:O X 197 [.a (xc op j s aR),.l vs]=some (.t [.i .i64 a,.i .i64 b]):=aI (fc:=S7) aX3 rfl rfl (by simp[S7,h2,h221]);by_cases c3:b=0
 rotate_left
 exact⟨0,0,b,aI (fc:=Fr) Qn rfl rfl (by simp[Fr,h1,Rg,c3])⟩;subst c3;cases t with|false=>exact⟨0,0,1,aI (fc:=Fr) Qn rfl rfl (by simp[Fr,h1,Rg,h3])⟩|true=>obtain⟨ty,n,er,Rf,_⟩:=dZ rfl;exact⟨ty,n,er,aI (fc:=Fr) Qn rfl rfl (by simp[Fr,h1,Rg,h3,Rf])⟩
end Go.Proofs.YtdlpbedneamebaaGreatDoor
