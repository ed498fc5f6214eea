/-
A part of the proof of the last text.
-/
import Derived.Test.YtdlpbedneamebaaGreatDoorTZ
set_option linter.all false
namespace Go.Proofs.YtdlpbedneamebaaGreatDoor
open Go.VM
variable {X:aU}
def r7 (N:List (List UInt8)):Nat->List V->Prop
 |0,_=>False|n+1,ys=>∃(op k:Int) (s:List UInt8) (aR:List (List V)),ys=xc op k s aR/\(op=4->s∈N)/\(op≠1->op≠2->op≠3->op≠4->∀zs∈aR,r7 N n zs)
def r7.le {N:List (List UInt8)}:∀{n m:Nat} {ys:List V},n<=m->r7 N n ys->r7 N m ys
 |0,_,_,_,h=>h.elim|n+1,0,_,jQ,_=>by omega|n+1,m+1,_,jQ,h=>by obtain⟨op,k,s,aR,rfl,h4,hz⟩:=h;exact⟨op,k,s,aR,rfl,h4,fun a b c d zs gP=>(hz a b c d zs gP).le (by omega)⟩
def cK2 (vs:List Va)(hv:vs.length<=1000)(op k:Int)(s:List UInt8)(aR:List (List V)):
  ∃r,bP (O X) [1,2,6] GA [(1,.l (aB Va.v vs)),(2,.bx (xc op k s aR)),(6,.i .i64 (0:Nat))]=some r/\((∃a b,r=(.r,[(4,.i .i64 a),(5,.i .i64 b)])/\(b=0->s∈vs.map Va.name))\/r=(.e 1,[])):=by
 refine lK (fun i=>[(1,.l (aB Va.v vs)),(2,.bx (xc op k s aR)),(6,.i .i64 (i:Int))]) vs.length _ (by simp) (fun i hi=> ?_) (by simp[GA]);have hw:=bC (i+1) (by omega);have oR:=ZO (X:=X) vs[i].ty;by_cases hn:vs[i].name=s;have hm:s∈vs.map Va.name:=jL.2 ⟨_,gN hi,hn⟩;by_cases hc:1<=vs[i].ty/\vs[i].ty<=5;rw[yS hc] at oR;exact⟨(.r,[(4,.i .i64 vs[i].ty),(5,.i .i64 0)]),by simp[GA,hi,hn,oR],.inr ⟨by simp,.inl ⟨_,_,rfl,fun _=>hm⟩⟩⟩;rw[zT hc] at oR;exact⟨(.r,[(4,.i .i64 0),(5,.i .i64 3)]),by simp[GA,hi,hn,oR],.inr ⟨by simp,.inl ⟨_,_,rfl,fun _=>hm⟩⟩⟩;simp[-Prod.exists,GA,hi,hw,hn]
def IIP (P:Prop)(y:V):Prop:=∃a b:Int,y= .t [.i .i64 a,.i .i64 b]/\(b=0->P)
@[simp] def gQ9 (P:Prop)(a b:Int):IIP P (.t [.i .i64 a,.i .i64 b])=(b=0->P):=by unfold IIP;apply propext;constructor;rintro⟨a',b',h,hp⟩;cases h;exact hp;exact fun h=>⟨a,b,rfl,h⟩
set_option maxHeartbeats 2000000 in
def u87 (vs:List Va)(hv:vs.length<=1000):∀(n:Nat),n<=100->∀ys:List V,Tr n ys->∃a b:Int,O X 227 [.a ys,.l (aB Va.v vs)]=some (.t [.i .i64 a,.i .i64 b])/\(b=0->r7 (vs.map Va.name) n ys):=by
 intro n;induction n using Nat.strongRecOn with
 |_ n ih=>
  intro hn ys h;obtain⟨op,k,s,aR,rfl,bT,hz⟩:=h.cells;obtain⟨n,rfl⟩:∃n',n=n'+1:=⟨n - 1,by omega⟩;obtain⟨r1,l1,iI⟩:=cK2 (X:=X) vs hv op k s aR;have l2:∃r,bP (O X) [1,2,7,8] Iz [(1,.l (aB Va.v vs)),(2,.bx (xc op k s aR)),(7,.ow 3 (bQ [])),(8,.i .i64 ((0:Nat):Int))]=some r/\((∃a b,r=(.r,[(4,.i .i64 a),(5,.i .i64 b)])/\b≠0)\/∃l:List Int,r=(.e 3,[(2,.bx (xc op k s aR)),(7,.ow 3 (bQ l))])/\∀zs∈aR,r7 (vs.map Va.name) n zs):=by
   refine dW (fun i aA=>∃l:List Int,l.length=i/\aA=[(1,.l (aB Va.v vs)),(2,.bx (xc op k s aR)),(7,.ow 3 (bQ l)),(8,.i .i64 (i:Int))]/\∀(j:Nat) (hj:j<aR.length),j<i->r7 (vs.map Va.name) n aR[j]) aR.length _ (fun i aA hI=> ?_) (fun i aA hi hI=> ?_) (fun aA hI=> ?_) aR.length 0 _ (by omega) ⟨[],rfl,rfl,fun j _ h=>absurd h (by omega)⟩;obtain⟨l,_,rfl,_⟩:=hI;simp;obtain⟨l,hl,rfl,hy⟩:=hI;have hw:=bC (i+1) (by omega);obtain⟨m,hm,hT⟩:=hz _ (gN hi);obtain⟨a,b,fW,hN⟩:=ih m hm (by omega) _ hT;have F6:=hT.len.1;by_cases hb:b=0;left;refine⟨[(1,.l (aB Va.v vs)),(2,.bx (xc op k s aR)),(7,.ow 3 (bQ (l++[a]))),(8,.i .i64 ((i+1:Nat):Int))],?_,l++[a],by simp[hl],rfl,fun j hj hji=> ?_⟩;have AH:(l.length+1)*8<=140737488355328:=by omega
   simp[Iz,hi,hw,fW,F6,hb,AH];simp[aB];by_cases e:j=i;subst e;exact(hN hb).le (by omega);exact hy j hj (by omega);right;exact⟨(.r,[(4,.i .i64 0),(5,.i .i64 b)]),by simp[Iz,hi,fW,F6,hb],by simp,.inl ⟨0,b,rfl,hb⟩⟩;obtain⟨l,hl,rfl,hy⟩:=hI;refine⟨(.e 3,[(2,.bx (xc op k s aR)),(7,.ow 3 (bQ l))]),by simp[Iz],by simp,.inr ⟨l,rfl,fun zs gP=> ?_⟩⟩;obtain⟨j,hj,rfl⟩:=lH gP;exact hy j hj hj
  obtain⟨r2,l2,nP⟩:=l2;simp only[fU] at l1 l2;rw[show bQ []=[] from rfl] at l2;have:∃y,O X 227 [.a (xc op k s aR),.l (aB Va.v vs)]=some y/\IIP (r7 (vs.map Va.name) (n+1) (xc op k s aR)) y:=by by_cases h1:op=1;exact⟨.t [.i .i64 1,.i .i64 0],aI (fc:=tF) rfl rfl rfl (by simp[tF,h1]),1,0,rfl,fun _=>⟨op,k,s,aR,rfl,fun h=>by omega,fun h=>absurd h1 h⟩⟩;by_cases h2:op=2;exact⟨.t [.i .i64 2,.i .i64 0],aI (fc:=tF) rfl rfl rfl (by simp[tF,h2]),2,0,rfl,fun _=>⟨op,k,s,aR,rfl,fun h=>by omega,fun _ h=>absurd h2 h⟩⟩;by_cases h3:op=3;exact⟨.t [.i .i64 3,.i .i64 0],aI (fc:=tF) rfl rfl rfl (by simp[tF,h3]),3,0,rfl,fun _=>⟨op,k,s,aR,rfl,fun h=>by omega,fun _ _ h=>absurd h3 h⟩⟩;by_cases h4:op=4;subst h4;rcases iI with⟨a,b,rfl,hs⟩|rfl;exact⟨.t [.i .i64 a,.i .i64 b],aI (fc:=tF) rfl rfl rfl (by simp[tF,bA,l1]),a,b,rfl,fun h=>⟨4,k,s,aR,rfl,fun _=>hs h,fun _ _ _ h=>absurd rfl h⟩⟩;exact⟨.t [.i .i64 0,.i .i64 4],aI (fc:=tF) rfl rfl rfl (by simp[tF,bA,l1]),0,4,rfl,fun h=>absurd h (by decide)⟩;rcases nP with⟨a,b,rfl,hb⟩|⟨l,rfl,gC⟩;exact⟨.t [.i .i64 a,.i .i64 b],aI (fc:=tF) rfl rfl rfl (by simp[tF,bA,l2,h1,h2,h3,h4]),a,b,rfl,fun h=>absurd h hb⟩;have hN:r7 (vs.map Va.name) (n+1) (xc op k s aR):=⟨op,k,s,aR,rfl,fun h=>absurd h h4,fun _ _ _ _=>gC⟩;obtain⟨t,u,h98⟩:=t98 (X:=X) op l;refine gZ (fc:=tF) rfl rfl rfl ?_;cases u<;>simp[tF,bA,l2,h1,h2,h3,h4,h98,hN]
  obtain⟨y,h,a,b,rfl,hp⟩:=this;exact⟨a,b,h,hp⟩
def u76 (ys:List V)(h:pH 65 ys)(vs:List Va)(hv:vs.length<=1000):∃a b:Int,O X 205 [.a ys,.l (aB Va.v vs)]=some (.t [.i .i64 a,.i .i64 b])/\(b=0->∃k,k<=64/\Tr k ys/\r7 (vs.map Va.name) k ys):=by
 obtain⟨n,h86,hn⟩:=t86 (X:=X) ys h;have h4:ys.length=4:=by obtain⟨_,_,_,_,rfl,_⟩:=EO h;rfl
 have cK:(∀y∈ys,y.cell=true)=True:=by obtain⟨_,_,_,_,rfl,_⟩:=EO h;simp
 by_cases h0:n=0;obtain⟨k,hk,hT⟩:=hn h0;subst h0;obtain⟨a,b,fW,hN⟩:=u87 (X:=X) vs hv k (by omega) ys hT;exact⟨a,b,aI (fc:=Iq) rfl rfl (by simp[V.arg]) (by simp[Iq,h4,cK,h86,fW]),fun hb=>⟨k,hk,hT,hN hb⟩⟩;exact⟨0,n,aI (fc:=Iq) rfl rfl (by simp[V.arg]) (by simp[Iq,h4,cK,h86,h0]),fun h=>absurd h h0⟩
def XN (ys:List V):Prop:=∃k,k<=64/\Tr k ys/\r7 (vars.map Va.name) k ys
def cL3 (ys:List V)(h:pH 65 ys)(w:Int):∃n:Int,O X 173 [.a ys,.l (aB Va.v vars),.i .i64 w]=some (.i .i64 n)/\(n=0->XN ys):=by
 obtain⟨a,b,h76,hp⟩:=u76 (X:=X) ys h vars (by decide);have h4:ys.length=4:=by obtain⟨_,_,_,_,rfl,_⟩:=EO h;rfl
 have cK:(∀y∈ys,y.cell=true)=True:=by obtain⟨_,_,_,_,rfl,_⟩:=EO h;simp
 have hN:b=0->XN ys:=hp;generalize aB Va.v vars=vs at h76;have:∃y,O X 173 [.a ys,.l vs,.i .i64 w]=some y/\IP (XN ys) y:=by refine gZ (fc:=P1) rfl rfl (by simp[V.arg]) ?_;by_cases hb:b=0;have:=hN hb;by_cases ha:a=w<;>simp[P1,h4,cK,h76,ha,hb,this];simp[P1,h4,cK,h76,hb]
 obtain⟨y,h,n,rfl,hq⟩:=this;exact⟨n,h,hq⟩
def cM2 (x:kS)(h:pH 65 x.amount.cells):∃n:Int,O X 133 [x.v]=some (.i .i64 n)/\(n=0->XN x.amount.cells):=by
 obtain⟨t,ht⟩:=OG (X:=X) x.name;have CA:=ZP (X:=X);obtain⟨n,hn,hp⟩:=cL3 (X:=X) x.amount.cells h 2;have:∃y,O X 133 [x.v]=some y/\IP (XN x.amount.cells) y:=by refine gZ (fc:=K5) rfl rfl rfl ?_;generalize aB Va.v vars=vs at CA hn;by_cases c1:x.window<1;cases t<;>simp[K5,ht,CA,hn,c1];by_cases c2:3<x.window;cases t<;>simp[K5,ht,CA,hn,c1,c2];by_cases h0:n=0;have:=hp h0;cases t<;>simp[K5,ht,CA,hn,c1,c2,h0,this];cases t<;>simp[K5,ht,CA,hn,c1,c2,h0]
 obtain⟨y,h,n,rfl,hq⟩:=this;exact⟨n,h,hq⟩
def cH8 (p:dO)(hf:∀f∈p.fees,f.okX)(h4:p.fees.length<=4):∃r,bP (O X) [3,14] HL [(3,.bx p.cells),(14,.i .i64 0)]=some r/\((∃n,r=(.r,[(6,.i .i64 n)])/\n≠0)\/r=(.e 0,[(3,.bx p.cells)])):=by
 have:=lK (o:=O X) (kin:=[3,14]) (c:=HL) (fun i=>[(3,.bx p.cells),(14,.i .i64 (i:Int))]) p.fees.length (fun r=>(∃n,r=(.r,[(6,.i .i64 n)])/\n≠0)\/r=(.e 0,[(3,.bx p.cells)])) (by simp) (fun i hi=>by
  have hw:=bC (i+1) (by omega);have hx:=hf _ (gN hi);obtain⟨n,hn⟩:=t42 (X:=X) p.fees[i] (O9 hx.1) (O9 hx.2);by_cases h0:n=0<;>simp[-Prod.exists,HL,hi,hw,hn,h0]) (by simp[HL])
 simpa using this
def cH7 (p:dO)(hf:∀f∈p.rules,f.okX)(h4:p.rules.length<=4):∃r,bP (O X) [3,16] Fy [(3,.bx p.cells),(16,.i .i64 0)]=some r/\((∃n,r=(.r,[(6,.i .i64 n)])/\n≠0)\/(r=(.e 2,[])/\∀f∈p.rules,XN f.amount.cells)):=by
 obtain⟨r,hl,hr⟩:=dW (o:=O X) (kin:=[3,16]) (c:=Fy) (fun i aA=>aA=[(3,.bx p.cells),(16,.i .i64 (i:Int))]/\∀(k:Nat) (hk:k<p.rules.length),k<i->XN p.rules[k].amount.cells) p.rules.length (fun r=>(∃n,r=(.r,[(6,.i .i64 n)])/\n≠0)\/(r=(.e 2,[])/\∀f∈p.rules,XN f.amount.cells)) (fun i aA hI=>by obtain⟨rfl,_⟩:=hI;simp) (fun i aA hi hI=>by
  obtain⟨rfl,hz⟩:=hI;have hw:=bC (i+1) (by omega);have hx:=hf _ (gN hi);obtain⟨n,hn,hp⟩:=cM2 (X:=X) p.rules[i] (O9 hx);by_cases h0:n=0;left;refine⟨[(3,.bx p.cells),(16,.i .i64 ((i+1:Nat):Int))],by simp[Fy,hi,hw,hn,h0],rfl,fun k hk kY=> ?_⟩;by_cases e:k=i;subst e;exact hp h0;exact hz k hk (by omega);right;exact⟨(.r,[(6,.i .i64 n)]),by simp[Fy,hi,hn,h0],by simp,.inl ⟨n,rfl,h0⟩⟩) (fun aA hI=>by
  obtain⟨rfl,hz⟩:=hI;refine⟨(.e 2,[]),by simp[Fy],by simp,.inr ⟨rfl,fun f hf=> ?_⟩⟩;obtain⟨k,hk,rfl⟩:=lH hf;exact hz k hk hk) p.rules.length 0 [(3,.bx p.cells),(16,.i .i64 ((0:Nat):Int))] (by omega) ⟨rfl,fun k _ h=>absurd h (by omega)⟩
 exact⟨r,by simpa using hl,hr⟩
structure Kn (p:dO):Prop where
 over:0<=p.overdraft/\p.overdraft<=1000000000000
 rulesL:p.rules.length<=4
 rules:∀f∈p.rules,XN f.amount.cells
set_option maxHeartbeats 16000000 in
def u80 (p:dO)(cs:List gR)(cl:List iB)(hc:cs.length<=1000)(cK:cl.length<=1000)(hf:∀f∈p.fees,f.okX)(hr:∀f∈p.rules,f.okX):∃n:Int,O X 80 [p.v,.l (CF cs),.l (aB iB.v cl)]=some (.i .i64 n)/\(n=0->Kn p):=by
 obtain⟨t,ht⟩:=OG (X:=X) p.name;have jS:=aD0 (X:=X) cs p.currency hc;obtain⟨c,u,hcu⟩:=bY7 (Ff cs p.currency);rw[hcu] at jS;obtain⟨d,v,oS⟩:=t40 (X:=X) cl p.calendar cK;have gW:=u7 (X:=X) p.from';generalize decide (0<=p.from'/\p.from'<=73048)=t37 at gW;obtain⟨n1,lF⟩:=Uq (X:=X) p.credit;obtain⟨n2,mE⟩:=Uq (X:=X) p.debit;obtain⟨ev,iQ⟩:=bE6 (X:=X) p p.v (.l (CF cs)) (.l (aB iB.v cl));have l1:=fun h4=>cH8 (X:=X) p hf h4;have l2:=fun h4=>cH7 (X:=X) p hr h4;have:∃y,O X 80 [p.v,.l (CF cs),.l (aB iB.v cl)]=some y/\IP (Kn p) y:=by
  refine gZ (fc:=lZ) rfl rfl rfl ?_;cases t with|false=>simp[lZ,ht]|true=>
  cases u with|false=>simp[lZ,ht,jS]|true=>
  cases v with|false=>simp[lZ,ht,jS,oS]|true=>
  cases t37 with|false=>simp[lZ,ht,jS,oS,iQ,gW]|true=>
  cases ev with|false=>simp[lZ,ht,jS,oS,iQ,gW]|true=>
  by_cases c1:p.overdraft<0;simp[lZ,ht,jS,oS,iQ,gW,c1];by_cases c2:1000000000000<p.overdraft;simp[lZ,ht,jS,oS,iQ,gW,c1,c2];by_cases c3:p.taxPpm<0;simp[lZ,ht,jS,oS,iQ,gW,c1,c2,c3];by_cases c4:1000000<p.taxPpm;simp[lZ,ht,jS,oS,iQ,gW,c1,c2,c3,c4];by_cases c5:n1=0
  rotate_left
  simp[lZ,ht,jS,oS,iQ,gW,c1,c2,c3,c4,lF,c5];by_cases c6:n2=0
  rotate_left
  simp[lZ,ht,jS,oS,iQ,gW,c1,c2,c3,c4,lF,mE,c5,c6];by_cases c7:4<p.fees.length;have c7':(4:Int)<(p.fees.length:Int):=by omega
  simp[lZ,ht,jS,oS,iQ,gW,c1,c2,c3,c4,lF,mE,c5,c6,c7'];have c7':¬(4:Int)<(p.fees.length:Int):=by omega
  by_cases c8:4<p.rules.length;have c8':(4:Int)<(p.rules.length:Int):=by omega
  simp[lZ,ht,jS,oS,iQ,gW,c1,c2,c3,c4,lF,mE,c5,c6,c7',c8'];have c8':¬(4:Int)<(p.rules.length:Int):=by omega
  obtain⟨s1,iX,fM⟩:=l1 (by omega);obtain⟨s2,kX,cJ⟩:=l2 (by omega);rcases fM with⟨n,rfl,hn⟩|rfl;simp[lZ,bA,ht,jS,oS,iQ,gW,c1,c2,c3,c4,lF,mE,c5,c6,c7',c8',iX,hn];rcases cJ with⟨n,rfl,hn⟩|⟨rfl,hz⟩;simp[lZ,bA,ht,jS,oS,iQ,gW,c1,c2,c3,c4,lF,mE,c5,c6,c7',c8',iX,kX,hn];have hP:Kn p:=⟨by omega,by omega,hz⟩;simp[lZ,bA,ht,jS,oS,iQ,gW,c1,c2,c3,c4,lF,mE,c5,c6,c7',c8',iX,kX,hP]
 obtain⟨y,h,n,rfl,hp⟩:=this;exact⟨n,h,hp⟩
def u39 (b:cD)(h:qU b)(cK:b.calendars.length<=1000)(hf:Lw b):∃n:Int,O X 39 [b.v]=some (.i .i64 n)/\(n=0->∀p∈b.products,Kn p):=by
 obtain⟨m,hm⟩:=t11 (X:=X) b.products;have eF:=h.prods;have hx:=dW (o:=O X) (kin:=[1,3,4]) (c:=Iw) (fun i aA=>∃n:Int,aA=[(1,.bx b.cells),(3,.i .i64 n),(4,.i .i64 (i:Int))]/\(n=0->∀(k:Nat) (hk:k<b.products.length),k<i->Kn b.products[k])) b.products.length (fun r=>∃n:Int,r=(.e 0,[(3,.i .i64 n)])/\(n=0->∀p∈b.products,Kn p)) (fun i aA hI=>by obtain⟨n,rfl,_⟩:=hI;simp) (fun i aA hi hI=>by
  obtain⟨n,rfl,hz⟩:=hI;have hw:=bC (i+1) (by omega);by_cases h0:n=0;subst h0;left;have hx:=hf _ (gN hi);obtain⟨n,hn,hp⟩:=u80 (X:=X) b.products[i] b.currencies b.calendars h.curs cK hx.1 hx.2;refine⟨[(1,.bx b.cells),(3,.i .i64 n),(4,.i .i64 ((i+1:Nat):Int))],by simp[Iw,hi,hw,hn],n,rfl,fun h0 k hk kY=> ?_⟩;by_cases e:k=i;subst e;exact hp h0;exact hz rfl k hk (by omega);right;exact⟨(.e 0,[(3,.i .i64 n)]),by simp[Iw,hi,h0],by simp,n,rfl,fun h=>absurd h h0⟩) (fun aA hI=>by
  obtain⟨n,rfl,hz⟩:=hI;refine⟨(.e 0,[(3,.i .i64 n)]),by simp[Iw],by simp,n,rfl,fun h0 p hp=> ?_⟩;obtain⟨k,hk,rfl⟩:=lH hp;exact hz h0 k hk hk) b.products.length 0 [(1,.bx b.cells),(3,.i .i64 m),(4,.i .i64 ((0:Nat):Int))] (by omega) ⟨m,rfl,fun _ k _ h=>absurd h (by omega)⟩
 obtain⟨r,hx,n,rfl,hz⟩:=hx;simp only[fU] at hx;exact⟨n,aI (fc:=SS) rfl rfl rfl (by simp[SS,hm,bA,hx]),hz⟩
end Go.Proofs.YtdlpbedneamebaaGreatDoor
