/-
Plain laws and walks: part of the proof of the last text.
-/
import Derived.Test.YtdlpbedneamebaaGreatDoorTV
set_option linter.all false
namespace Go.Proofs.YtdlpbedneamebaaGreatDoor
open Go.VM
variable {X:aU}
inductive Tr:Nat->List V->Prop
 |mk (op k:Int) (s:List UInt8) (aR:List (List V)) (ns:List Nat) (hl:aR.length=ns.length) (h:∀(i:Nat) (h1:i<aR.length) (h2:i<ns.length),Tr ns[i] aR[i]):Tr (ns.sum+1) [.i .i64 op,.i .i64 k,.s s,.l (aR.map V.a)]
def Tr.len {n:Nat}{ys:List V}(h:Tr n ys):ys.length=4/\1<=n:=by cases h;exact⟨rfl,by omega⟩
def YL:∀(ns:List Nat),(∀n∈ns,1<=n)->ns.length<=ns.sum
 |[],_=>dD _|n::ns,h=>by have h1:=h n (dC ..);have h2:=YL ns fun m hm=>h m (dL _ hm);simp only[fY,List.sum_cons];omega
def bK4:∀{ns:List Nat} {n:Nat},n∈ns->n<=ns.sum
 |m::ns,n,h=>by rw[List.sum_cons];rcases eP.1 h with rfl|h;omega;have:=bK4 h;omega
def Tr.cells {n:Nat}{ys:List V}(h:Tr n ys):∃(op k:Int) (s:List UInt8) (aR:List (List V)),ys=[.i .i64 op,.i .i64 k,.s s,.l (aR.map V.a)]/\aR.length+1<=n/\∀zs∈aR,∃m,m<n/\Tr m zs:=by
 cases h with
 |mk op k s aR ns hl h=>
  have h1:∀n∈ns,1<=n:=fun n hn=>by obtain⟨i,hi,rfl⟩:=lH hn;exact(h i (by omega) hi).len.2
  have h2:=YL ns h1;refine⟨op,k,s,aR,rfl,by omega,fun zs hz=> ?_⟩;obtain⟨i,hi,rfl⟩:=lH hz;refine⟨ns[i]'(by omega),?_,h i hi (by omega)⟩;have:ns[i]'(by omega)<=ns.sum:=bK4 (gN _);omega
def t93:∀(n:Nat),n<=100->∀ys:List V,Tr n ys->∃z:Int,O X 245 [.a ys]=some (.i .i64 z)/\0<=z/\z<=n:=by
 intro n;induction n using Nat.strongRecOn with
 |_ n ih=>
  intro hn ys h;obtain⟨op,k,s,aR,rfl,bT,hz⟩:=h.cells;have hl:∃r,bP (O X) [1,3,4] Wg [(1,.bx [.i .i64 op,.i .i64 k,.s s,.l (aR.map V.a)]),(3,.i .i64 0),(4,.i .i64 0)]=some r/\(∃z:Int,r=(.e 0,[(3,.i .i64 z)])/\0<=z/\z+1<=n):=by refine dW (fun i aA=>∃z:Int,aA=[(1,.bx [.i .i64 op,.i .i64 k,.s s,.l (aR.map V.a)]),(3,.i .i64 z),(4,.i .i64 (i:Int))]/\0<=z/\z+1<=n) aR.length _ (fun i aA hI=> ?_) (fun i aA hi hI=> ?_) (fun aA hI=> ?_) aR.length 0 _ (by omega) ⟨0,by simp,by omega,by omega⟩;obtain⟨z,rfl,_⟩:=hI;simp;obtain⟨z,rfl,h0,h1⟩:=hI;left;have hw:=bC (i+1) (by omega);obtain⟨m,hm,hT⟩:=hz _ (gN hi);obtain⟨q,hq,hq0,hq1⟩:=ih m hm (by omega) _ hT;have F6:=hT.len.1;refine⟨[(1,.bx [.i .i64 op,.i .i64 k,.s s,.l (aR.map V.a)]),(3,.i .i64 (max z q)),(4,.i .i64 ((i+1:Nat):Int))],?_,max z q,rfl,by omega,by omega⟩;rw[show max z q=if z<q then q else z from by split<;>omega];simp[Wg,hi,hw,hq,F6];obtain⟨z,rfl,h0,h1⟩:=hI;exact⟨(.e 0,[(3,.i .i64 z)]),by simp[Wg],by simp,z,rfl,h0,h1⟩
  obtain⟨_,hl,z,rfl,h0,h1⟩:=hl;have hw:IntKind.i64.wrap (z+1)=z+1:=bC _ (by omega);exact⟨z+1,aI (fc:=NL) rfl rfl rfl (by simp[NL,bA,hl,hw]),by omega,by omega⟩
def t94:∀(n:Nat),n<=100->∀ys:List V,Tr n ys->∃t:Bool,O X 246 [.a ys]=some (.b t):=by
 intro n;induction n using Nat.strongRecOn with
 |_ n ih=>
  intro hn ys h;obtain⟨op,k,s,aR,rfl,bT,hz⟩:=h.cells;have hl:∃r,bP (O X) [1,3] Wf [(1,.bx [.i .i64 op,.i .i64 k,.s s,.l (aR.map V.a)]),(3,.i .i64 (0:Nat))]=some r/\(r=(.r,[(2,.b false)])\/r=(.e 0,[])):=by refine lK (fun i=>[(1,.bx [.i .i64 op,.i .i64 k,.s s,.l (aR.map V.a)]),(3,.i .i64 (i:Int))]) aR.length _ (by simp) (fun i hi=> ?_) (by simp[Wf]);have hw:=bC (i+1) (by omega);obtain⟨m,hm,hT⟩:=hz _ (gN hi);obtain⟨q,hq⟩:=ih m hm (by omega) _ hT;have F6:=hT.len.1;cases q<;>simp[-Prod.exists,Wf,hi,hw,hq,F6]
  obtain⟨r,hl,hr⟩:=hl;simp only[fU] at hl;obtain⟨a,ha,_⟩:=t99 (X:=X) op;obtain⟨b,hb⟩:=cY2 (X:=X) op;have:∃y,O X 246 [.a [.i .i64 op,.i .i64 k,.s s,.l (aR.map V.a)]]=some y/\B1 y:=by refine gZ (fc:=WI) rfl rfl rfl ?_;rcases hr with rfl|rfl;simp[WI,bA,hl,ha,hb];simp[WI,bA,hl,ha,hb]
  obtain⟨y,h,t,rfl⟩:=this;exact⟨t,h⟩
def HR (l:List (List UInt8))(v:V):Prop:=v= .l (oL l)\/v= .ow 9 (oL l)
def dB5 (o:aU)(l:List (List UInt8))(k:Nat)(hk:k<=l.length):aS o (.slc 1 false true) [.l (oL l),.i .i64 (k:Int)]=some (.l (oL (l.take k))):=by
 have hb:pK (oL l).length false true [.i .i64 (k:Int)]=some (0,k):=by
  have:(k:Int)<=((oL l).length:Int):=by simp;omega
  simp only[pK];rw[aY ⟨by omega,this⟩];simp
 have ha:(oL l).all (fun x=>x.cells.length==1)=true:=mU fun _=>rfl;simp only[aS,ha,jA,hb,eB,JK];simp[aB]
def dB6 (o:aU)(l:List (List UInt8))(k:Nat)(hk:k<=l.length):aS o (.slc 1 true false) [.l (oL l),.i .i64 (k:Int)]=some (.l (oL (l.drop k))):=by
 have hb:pK (oL l).length true false [.i .i64 (k:Int)]=some (k,l.length):=by
  have:(k:Int)<=((oL l).length:Int):=by simp;omega
  simp only[pK];rw[aY ⟨by omega,this⟩];simp
 have ha:(oL l).all (fun x=>x.cells.length==1)=true:=mU fun _=>rfl;simp only[aS,ha,jA,hb,eB];simp only[aB];rw[rM (by simp),LH]
def cY0 (l:List (List UInt8))(s:List UInt8)(h:l.length<=1000):∃y l',O X 272 [.l (oL l),.s s]=some y/\HR l' y/\l'.length<=l.length+1/\l'≠[]:=by
 have hl:∃r,bP (O X) [0,1,5] TB [(0,.l (oL l)),(1,.s s),(5,.i .i64 (0:Nat))]=some r/\(∃k:Nat,k<=l.length/\r=(.e 0,[(0,.l (oL l)),(1,.s s),(5,.i .i64 (k:Int))])):=by refine lK (fun i=>[(0,.l (oL l)),(1,.s s),(5,.i .i64 (i:Int))]) l.length _ (by simp) (fun i hi=> ?_) ⟨(.e 0,[(0,.l (oL l)),(1,.s s),(5,.i .i64 (l.length:Int))]),by simp[TB],by simp,l.length,dD _,rfl⟩;have hw:=bC (i+1) (by omega);by_cases hb:Op.bytesLess l[i] s=true;exact⟨_,by simp[TB,hi,hw,hb];rfl,.inl ⟨rfl,by simp⟩⟩;exact⟨(.e 0,[(0,.l (oL l)),(1,.s s),(5,.i .i64 (i:Int))]),by simp[TB,hi,hb],.inr ⟨by simp,i,by omega,rfl⟩⟩
 obtain⟨_,hl,k,hk,rfl⟩:=hl;simp only[fU] at hl;have ht:=dB5 (O X) l k hk;have hd:=dB6 (O X) l k hk;have hm1:(l.take k).length*16<=140737488355328:=by rw[gO];omega
 have AH:((l.take k).length+1)*16<=140737488355328:=by rw[gO];omega
 have hm3:((l.take k).length+1+(l.drop k).length)*16<=140737488355328:=by rw[gO,oW];omega
 have hn:(l.take k++s::l.drop k).length<=l.length+1:=by simp;omega
 generalize l.take k=l1 at ht hm1 AH hm3 hn;generalize l.drop k=l2 at hd hm3 hn;by_cases vF:k<l.length;by_cases he:l[k]=s;exact⟨_,l,aI (fc:=Mh) rfl rfl rfl (y:= .l (oL l)) (by simp[Mh,bA,hl,vF,he]),.inl rfl,by omega,fun e=>by rw[e] at vF;exact absurd vF (QL _)⟩;exact⟨_,_,aI (fc:=Mh) rfl rfl rfl (y:= .ow 9 (oL (l1++s::l2))) (by simp[Mh,bA,hl,vF,he,ht,hd,hm1,AH,hm3];simp[aB]),.inr rfl,hn,by simp⟩;exact⟨_,_,aI (fc:=Mh) rfl rfl rfl (y:= .ow 9 (oL (l1++s::l2))) (by simp[Mh,bA,hl,vF,ht,hd,hm1,AH,hm3];simp[aB]),.inr rfl,hn,by simp⟩
abbrev xc (op k:Int)(s:List UInt8)(aR:List (List V)):List V:=[.i .i64 op,.i .i64 k,.s s,.l (aR.map V.a)]
def eA1 (op k:Int)(s:List UInt8)(aR:List (List V))(i:Nat)(l m:List (List UInt8))(v w:V)(hv:HR l v)(hw:HR m w)(h1:l.length+m.length<=1000):
  ∃(l':List (List UInt8)) (v':V),HR l' v'/\l'.length<=l.length+m.length/\bP (O X) [1,3,4,5,6] TD [(1,.bx (xc op k s aR)),(3,v),(4,.i .i64 (i:Int)),(5,w),(6,.i .i64 0)]=some (.e 2,[(1,.bx (xc op k s aR)),(3,v'),(4,.i .i64 (i:Int))]):=by
 have:∃r,bP (O X) [1,3,4,5,6] TD [(1,.bx (xc op k s aR)),(3,v),(4,.i .i64 (i:Int)),(5,w),(6,.i .i64 0)]=some r/\∃(l':List (List UInt8)) (v':V),HR l' v'/\l'.length<=l.length+m.length/\r=(.e 2,[(1,.bx (xc op k s aR)),(3,v'),(4,.i .i64 (i:Int))]):=by refine dW (fun j aA=>∃(l':List (List UInt8)) (v':V),HR l' v'/\l'.length<=l.length+j/\aA=[(1,.bx (xc op k s aR)),(3,v'),(4,.i .i64 (i:Int)),(5,w),(6,.i .i64 (j:Int))]) m.length _ (fun j aA hI=> ?_) (fun j aA hj hI=> ?_) (fun aA hI=> ?_) m.length 0 _ (by omega) ⟨l,v,hv,by omega,by simp⟩;obtain⟨l',v',dZ,_,rfl⟩:=hI;rcases dZ with rfl|rfl<;>rcases hw with rfl|rfl<;>simp;obtain⟨l',v',dZ,zG,rfl⟩:=hI;left;have hww:=bC (j+1) (by omega);obtain⟨y,l2,hy,hL,kX,bM⟩:=cY0 (X:=X) l' m[j] (by omega);refine⟨[(1,.bx (xc op k s aR)),(3,y),(4,.i .i64 (i:Int)),(5,w),(6,.i .i64 ((j+1:Nat):Int))],?_,l2,y,hL,by omega,rfl⟩;rcases dZ with rfl|rfl<;>rcases hw with rfl|rfl<;>rcases hL with rfl|rfl<;>simp[TD,hj,hww,hy,bM];obtain⟨l',v',dZ,zG,rfl⟩:=hI;refine⟨(.e 2,[(1,.bx (xc op k s aR)),(3,v'),(4,.i .i64 (i:Int))]),?_,by simp,l',v',dZ,zG,rfl⟩;rcases dZ with rfl|rfl<;>rcases hw with rfl|rfl<;>simp[TD]
 obtain⟨_,h,l',v',h2,h3,rfl⟩:=this;exact⟨l',v',h2,h3,h⟩
def Tr.parts {n:Nat}{ys:List V}(h:Tr n ys):∃(op k:Int) (s:List UInt8) (aR:List (List V)) (ns:List Nat),ys=xc op k s aR/\aR.length=ns.length/\n=ns.sum+1/\∀(i:Nat) (h1:i<aR.length) (h2:i<ns.length),Tr ns[i] aR[i]:=by cases h with|mk op k s aR ns hl h=>exact⟨op,k,s,aR,ns,rfl,hl,rfl,h⟩
def aZ6 (ns:List Nat)(i:Nat)(h:i<ns.length):(ns.take (i+1)).sum=(ns.take i).sum+ns[i]:=by rw[H1 h,List.sum_append];simp
def aZ5 (ns:List Nat)(i:Nat):(ns.take i).sum<=ns.sum:=by
 have:=DZ i ns
 conv=>rhs;rw[<-this,List.sum_append]
 omega
set_option maxHeartbeats 1000000 in
def t95:∀(n:Nat),n<=100->∀ys:List V,Tr n ys->∃(l:List (List UInt8)) (v:V),HR l v/\l.length<=n/\O X 247 [.a ys]=some v:=by
 intro n;induction n using Nat.strongRecOn with
 |_ n ih=>
  intro hn ys h;obtain⟨op,k,s,aR,ns,rfl,bT,rfl,hz⟩:=h.parts;have hns:ns.length<=ns.sum:=YL ns fun n hn=>by obtain⟨i,hi,rfl⟩:=lH hn;exact(hz i (by omega) hi).len.2
  have cW:∀(l0:List (List UInt8)) (v0:V),HR l0 v0->l0.length<=1->∃r,bP (O X) [1,3,4] We [(1,.bx (xc op k s aR)),(3,v0),(4,.i .i64 0)]=some r/\(∃(l:List (List UInt8)) (v:V),HR l v/\l.length<=ns.sum+1/\r=(.e 0,[(3,v)])):=by
   intro l0 v0 hv0 hl0;refine dW (fun i aA=>∃(l:List (List UInt8)) (v:V),HR l v/\l.length<=(ns.take i).sum+1/\aA=[(1,.bx (xc op k s aR)),(3,v),(4,.i .i64 (i:Int))]) aR.length _ (fun i aA hI=> ?_) (fun i aA hi hI=> ?_) (fun aA hI=> ?_) aR.length 0 _ (by omega) ⟨l0,v0,hv0,by simpa using hl0,by simp⟩;obtain⟨l,v,hv,_,rfl⟩:=hI;rcases hv with rfl|rfl<;>simp;obtain⟨l,v,hv,hl,rfl⟩:=hI;left;have hw:=bC (i+1) (by omega);have sC:i<ns.length:=by omega
   have hT:=hz i hi sC;have wP:=aZ5 ns (i+1);rw[aZ6 ns i sC] at wP;obtain⟨m,w,hwL,hm,h95⟩:=ih ns[i] (by omega) (by omega) _ hT;obtain⟨l',v',dZ,zG,hlo⟩:=eA1 (X:=X) op k s aR i l m v w hv hwL (by omega);have F6:=hT.len.1;refine⟨[(1,.bx (xc op k s aR)),(3,v'),(4,.i .i64 ((i+1:Nat):Int))],?_,l',v',dZ,by rw[aZ6 ns i sC];omega,rfl⟩;rcases hv with rfl|rfl<;>rcases hwL with rfl|rfl<;>rcases dZ with rfl|rfl<;>simp[We,bA,hi,hw,h95,F6,hlo];obtain⟨l,v,hv,hl,rfl⟩:=hI;have wP:=aZ5 ns aR.length;refine⟨(.e 0,[(3,v)]),?_,by simp,l,v,hv,by omega,rfl⟩;rcases hv with rfl|rfl<;>simp[We]
  by_cases h4:op=4;subst h4;obtain⟨_,hl,l,v,hv,hll,rfl⟩:=cW [s] (.ow 9 (oL [s])) (.inr rfl) (by simp);refine⟨l,v,hv,hll,aI (fc:=S1) rfl rfl rfl ?_⟩;rw[show oL [s]=[V.s s] from rfl] at hl;rcases hv with rfl|rfl<;>simp[S1,bA,hl];obtain⟨_,hl,l,v,hv,hll,rfl⟩:=cW [] (.ow 9 (oL [])) (.inr rfl) (by simp);refine⟨l,v,hv,hll,aI (fc:=S1) rfl rfl rfl ?_⟩;rw[show oL []=[] from rfl] at hl;rcases hv with rfl|rfl<;>simp[S1,bA,h4,hl]
structure Va where
 name:List UInt8
 ty:Int
abbrev Va.cells (x:Va):List V:=[.s x.name,.i .i64 x.ty]
abbrev Va.v (x:Va):V:= .a ([.s x.name,.i .i64 x.ty])
@[simp] def Va.all_len (l:List Va):(aB Va.v l).all (fun x=>x.cells.length==2)=true:=mU fun _=>rfl
@[simp] def Va.len_all (l:List Va):(∀x∈aB Va.v l,x.cells.length=2)=True:=qB fun _=>rfl
def eA4 (vs:List Va)(hv:vs.length<=1000)(op k:Int)(s:List UInt8)(aR:List (List V)):
  ∃r,bP (O X) [1,2,6] GA [(1,.l (aB Va.v vs)),(2,.bx (xc op k s aR)),(6,.i .i64 (0:Nat))]=some r/\((∃a b,r=(.r,[(4,.i .i64 a),(5,.i .i64 b)]))\/r=(.e 1,[])):=by
 refine lK (fun i=>[(1,.l (aB Va.v vs)),(2,.bx (xc op k s aR)),(6,.i .i64 (i:Int))]) vs.length _ (by simp) (fun i hi=> ?_) (by simp[GA]);have hw:=bC (i+1) (by omega);have oR:=ZO (X:=X) vs[i].ty;by_cases hn:vs[i].name=s;by_cases hc:1<=vs[i].ty/\vs[i].ty<=5;rw[yS hc] at oR;simp[-Prod.exists,GA,hi,hn,oR];rw[zT hc] at oR;simp[-Prod.exists,GA,hi,hn,oR];simp[-Prod.exists,GA,hi,hw,hn]
set_option maxHeartbeats 1000000 in
def t87 (vs:List Va)(hv:vs.length<=1000):∀(n:Nat),n<=100->∀ys:List V,Tr n ys->∃a b:Int,O X 227 [.a ys,.l (aB Va.v vs)]=some (.t [.i .i64 a,.i .i64 b]):=by
 intro n;induction n using Nat.strongRecOn with
 |_ n ih=>
  intro hn ys h;obtain⟨op,k,s,aR,rfl,bT,hz⟩:=h.cells;obtain⟨r1,l1,iI⟩:=eA4 (X:=X) vs hv op k s aR;have l2:∃r,bP (O X) [1,2,7,8] Iz [(1,.l (aB Va.v vs)),(2,.bx (xc op k s aR)),(7,.ow 3 (bQ [])),(8,.i .i64 ((0:Nat):Int))]=some r/\((∃a b,r=(.r,[(4,.i .i64 a),(5,.i .i64 b)]))\/∃l:List Int,r=(.e 3,[(2,.bx (xc op k s aR)),(7,.ow 3 (bQ l))])):=by
   refine dW (fun i aA=>∃l:List Int,l.length=i/\aA=[(1,.l (aB Va.v vs)),(2,.bx (xc op k s aR)),(7,.ow 3 (bQ l)),(8,.i .i64 (i:Int))]) aR.length _ (fun i aA hI=> ?_) (fun i aA hi hI=> ?_) (fun aA hI=> ?_) aR.length 0 _ (by omega) ⟨[],rfl,rfl⟩;obtain⟨l,_,rfl⟩:=hI;simp;obtain⟨l,hl,rfl⟩:=hI;have hw:=bC (i+1) (by omega);obtain⟨m,hm,hT⟩:=hz _ (gN hi);obtain⟨a,b,fW⟩:=ih m hm (by omega) _ hT;have F6:=hT.len.1;by_cases hb:b=0;left;refine⟨[(1,.l (aB Va.v vs)),(2,.bx (xc op k s aR)),(7,.ow 3 (bQ (l++[a]))),(8,.i .i64 ((i+1:Nat):Int))],?_,l++[a],by simp[hl],rfl⟩;have AH:(l.length+1)*8<=140737488355328:=by omega
   simp[Iz,hi,hw,fW,F6,hb,AH];simp[aB];right;exact⟨(.r,[(4,.i .i64 0),(5,.i .i64 b)]),by simp[Iz,hi,fW,F6,hb],by simp,.inl ⟨0,b,rfl⟩⟩;obtain⟨l,hl,rfl⟩:=hI;exact⟨(.e 3,[(2,.bx (xc op k s aR)),(7,.ow 3 (bQ l))]),by simp[Iz],by simp,.inr ⟨l,rfl⟩⟩
  obtain⟨r2,l2,nP⟩:=l2;simp only[fU] at l1 l2;rw[show bQ []=[] from rfl] at l2;have:∃y,O X 227 [.a (xc op k s aR),.l (aB Va.v vs)]=some y/\II y:=by refine gZ (fc:=tF) rfl rfl rfl ?_;by_cases h1:op=1;simp[tF,h1];by_cases h2:op=2;simp[tF,h2];by_cases h3:op=3;simp[tF,h3];by_cases h4:op=4;subst h4;rcases iI with⟨a,b,rfl⟩|rfl<;>simp[tF,bA,l1];rcases nP with⟨a,b,rfl⟩|⟨l,rfl⟩;simp[tF,bA,l2,h1,h2,h3,h4];obtain⟨t,u,h98⟩:=t98 (X:=X) op l;cases u<;>simp[tF,bA,l2,h1,h2,h3,h4,h98]
  obtain⟨y,h,a,b,rfl⟩:=this;exact⟨a,b,h⟩
def EO {m:Nat}{ys:List V}(h:pH (m+1) ys):∃op k s aR,ys=xc op k s aR/\aR.length<=maxLen/\∀zs∈aR,pH m zs:=by
 obtain⟨op,k,s,args,rfl,hl,ha⟩:=h;have key:∀args:List V,(∀y∈args,∃zs,y= .a zs/\pH m zs)->∃aR:List (List V),args=aR.map V.a/\∀zs∈aR,pH m zs:=by intro args;induction args with|nil=>intro _;exact⟨[],rfl,by simp⟩|cons y args ih=>intro h;obtain⟨zs,rfl,hz⟩:=h y (dC ..);obtain⟨aR,rfl,rZ⟩:=ih fun z hz=>h z (dL _ hz);refine⟨zs::aR,rfl,fun q hq=> ?_⟩;rcases eP.1 hq with rfl|hq;exact hz;exact rZ q hq
 obtain⟨aR,rfl,hz⟩:=key args ha;exact⟨op,k,s,aR,rfl,by simpa using hl,hz⟩
def Ta (aR:List (List V))(i:Nat)(n:Int):Prop:=∃ns:List Nat,ns.length=i/\(ns.sum:Int)+1=n/\∀(j:Nat) (h1:j<aR.length) (h2:j<ns.length),Tr ns[j] aR[j]
def Ta.next {aR:List (List V)}{i:Nat}{n:Int}(h:Ta aR i n)(hi:i<aR.length){m:Nat}(hT:Tr m aR[i]):Ta aR (i+1) (n+m):=by
 obtain⟨ns,rfl,hs,ht⟩:=h;refine⟨ns++[m],by simp,by simp;omega,fun j h1 h2=> ?_⟩;by_cases hj:j<ns.length;rw[List.getElem_append_left hj];exact ht j h1 hj;have:j=ns.length:=by simp at h2;omega
 subst this;simpa using hT
def eQ5:∀(m:Nat),m<=1000->∀ys:List V,pH (m+1) ys->∃z:Int,O X 269 [.a ys,.i .i64 m]=some (.i .i64 z)/\1<=z/\z<=m+1/\(z<=m->Tr z.toNat ys):=by
 intro m;induction m using Nat.strongRecOn with
 |_ m ih=>
  intro hm ys hx;obtain⟨op,k,s,aR,rfl,hl,ha⟩:=EO hx;have hml:aR.length<=9223372036854775807:=by unfold maxLen at hl;omega
  have cW:∃r,bP (O X) [1,2,5,6] Iy [(1,.i .i64 m),(2,.bx (xc op k s aR)),(5,.i .i64 1),(6,.i .i64 ((0:Nat):Int))]=some r/\∃z:Int,r=(.e 0,[(5,.i .i64 z)])/\1<=z/\z<=m+1/\(z<=m->Ta aR aR.length z):=by
   refine dW (fun i aA=>∃n:Int,aA=[(1,.i .i64 m),(2,.bx (xc op k s aR)),(5,.i .i64 n),(6,.i .i64 (i:Int))]/\1<=n/\n<=m+1/\(n<=m->Ta aR i n)) aR.length _ (fun i aA hI=> ?_) (fun i aA hi hI=> ?_) (fun aA hI=> ?_) aR.length 0 _ (by omega) ⟨1,rfl,by omega,by omega,fun _=>⟨[],rfl,rfl,by simp⟩⟩;obtain⟨n,rfl,_⟩:=hI;simp
   ·obtain⟨n,rfl,h1,h2,h3⟩:=hI;by_cases hn:n<=m
    ·left;have r8:=ha _ (gN hi);obtain⟨z,hz,FH,vC,hz3⟩:=ih ((m:Int) - n).toNat (by omega) (by omega) _ (PL (by omega) r8);have dE:((((m:Int) - n).toNat:Nat):Int)=(m:Int) - n:=by omega
     rw[dE] at hz vC hz3;have cU:=bC ((m:Int) - n) (by omega);have eZ:=bC (n+z) (by omega);have s8:=bC ((i:Int)+1) (by omega);have h4:aR[i].length=4:=by obtain⟨q,hq⟩:∃q,m=q+1:=⟨m - 1,by omega⟩;subst hq;obtain⟨_,_,_,_,h,_⟩:=r8;rw[h];rfl
     refine⟨[(1,.i .i64 m),(2,.bx (xc op k s aR)),(5,.i .i64 (n+z)),(6,.i .i64 ((i+1:Nat):Int))],?_,n+z,rfl,by omega,by omega,fun h=> ?_⟩;simp[Iy,hi,hn,h4,cU,hz,eZ,s8]
     ·have:=(h3 hn).next hi (hz3 (by omega))
      rwa[show((z.toNat:Nat):Int)=z from by omega] at this
    right;exact⟨(.e 0,[(5,.i .i64 n)]),by simp[Iy,hi,hn],by simp,n,rfl,h1,h2,fun h=>absurd h hn⟩
   obtain⟨n,rfl,h1,h2,h3⟩:=hI;exact⟨(.e 0,[(5,.i .i64 n)]),by simp[Iy],by simp,n,rfl,h1,h2,h3⟩
  obtain⟨_,cW,z,rfl,h1,h2,h3⟩:=cW;simp only[fU] at cW;refine⟨z,aI (fc:=SY) rfl rfl rfl (by simp[SY,bA,cW]),h1,h2,fun h=> ?_⟩;obtain⟨ns,hns,hs,ht⟩:=h3 h;have:z.toNat=ns.sum+1:=by omega
  rw[this];exact Tr.mk op k s aR ns hns.symm ht
def t57 (ys:List V)(h:pH 65 ys):∃t,O X 244 [.a ys,.i .i64 64]=some (.b t)/\(t=false->∃n,n<=64/\Tr n ys):=by
 obtain⟨z,hz,h1,h2,h3⟩:=eQ5 (X:=X) 64 (by omega) ys h;refine⟨decide (64<z),aI (fc:=S3) rfl rfl rfl ?_,fun ht=> ?_⟩;obtain⟨op,k,s,aR,rfl,hl,ha⟩:=EO h;simp at hz;simp[S3,hz];have:¬64<z:=by simpa using ht
 exact⟨z.toNat,by omega,h3 (by omega)⟩
def t86 (ys:List V)(h:pH 65 ys):∃n:Int,O X 226 [.a ys]=some (.i .i64 n)/\(n=0->∃k,k<=64/\Tr k ys):=by
 obtain⟨t,h57,ht⟩:=t57 (X:=X) ys h;have h4:ys.length=4:=by obtain⟨_,_,_,_,rfl,_⟩:=EO h;rfl
 have cK:(∀y∈ys,y.cell=true)=True:=by obtain⟨_,_,_,_,rfl,_⟩:=EO h;simp
 cases t with
 |true=>exact⟨5,aI (fc:=Mm) rfl rfl (by simp[V.arg]) (by simp[Mm,h4,cK,h57]),by simp⟩
 |false=>
  obtain⟨k,hk,hT⟩:=ht rfl;obtain⟨z,hz,_⟩:=t93 (X:=X) k (by omega) ys hT;obtain⟨u,hu⟩:=t94 (X:=X) k (by omega) ys hT;obtain⟨l,v,hv,hl,h95⟩:=t95 (X:=X) k (by omega) ys hT;have cW:∃r,bP (O X) [3,4] Wk [(3,v),(4,.i .i64 ((0:Nat):Int))]=some r/\(r=(.r,[(2,.i .i64 4)])\/r=(.e 0,[])):=by refine lK (fun i=>[(3,v),(4,.i .i64 (i:Int))]) l.length _ (fun i=>by rcases hv with rfl|rfl<;>simp) (fun i hi=> ?_) (by rcases hv with rfl|rfl<;>simp[Wk]);have hw:=bC (i+1) (by omega);obtain⟨b,hb⟩:=t96 (X:=X) l[i];rcases hv with rfl|rfl<;>cases b<;>simp[-Prod.exists,Wk,hi,hw,hb]
  obtain⟨r,cW,hr⟩:=cW;simp only[fU] at cW;refine(?_:∃n:Int,O X 226 [.a ys]=some (.i .i64 n)).imp fun n h=>⟨h,fun _=>⟨k,hk,hT⟩⟩;have:∃y,O X 226 [.a ys]=some y/\I1 y:=by refine gZ (fc:=Mm) rfl rfl (by simp[V.arg]) ?_;by_cases h8:8<z;simp[Mm,h4,cK,h57,hz,h8];cases u with|false=>simp[Mm,h4,cK,h57,hz,h8,hu]|true=>rcases hv with rfl|rfl<;>rcases hr with rfl|rfl<;>simp[Mm,bA,h4,cK,h57,hz,h8,hu,h95,cW]
  obtain⟨y,h,n,rfl⟩:=this;exact⟨n,h⟩
def t76 (ys:List V)(h:pH 65 ys)(vs:List Va)(hv:vs.length<=1000):∃a b:Int,O X 205 [.a ys,.l (aB Va.v vs)]=some (.t [.i .i64 a,.i .i64 b]):=by
 obtain⟨n,h86,hn⟩:=t86 (X:=X) ys h;have h4:ys.length=4:=by obtain⟨_,_,_,_,rfl,_⟩:=EO h;rfl
 have cK:(∀y∈ys,y.cell=true)=True:=by obtain⟨_,_,_,_,rfl,_⟩:=EO h;simp
 by_cases h0:n=0;obtain⟨k,hk,hT⟩:=hn h0;subst h0;obtain⟨a,b,fW⟩:=t87 (X:=X) vs hv k (by omega) ys hT;exact⟨a,b,aI (fc:=Iq) rfl rfl (by simp[V.arg]) (by simp[Iq,h4,cK,h86,fW])⟩;exact⟨0,n,aI (fc:=Iq) rfl rfl (by simp[V.arg]) (by simp[Iq,h4,cK,h86,h0])⟩
def YH (ys:List V)(h:pH 65 ys)(vs:List Va)(hv:vs.length<=1000)(w:Int):∃n:Int,O X 173 [.a ys,.l (aB Va.v vs),.i .i64 w]=some (.i .i64 n):=by
 obtain⟨a,b,h76⟩:=t76 (X:=X) ys h vs hv;have h4:ys.length=4:=by obtain⟨_,_,_,_,rfl,_⟩:=EO h;rfl
 have cK:(∀y∈ys,y.cell=true)=True:=by obtain⟨_,_,_,_,rfl,_⟩:=EO h;simp
 have:∃y,O X 173 [.a ys,.l (aB Va.v vs),.i .i64 w]=some y/\I1 y:=by refine gZ (fc:=P1) rfl rfl (by simp[V.arg]) ?_;by_cases hb:b=0<;>by_cases ha:a=w<;>simp[P1,h4,cK,h76,ha,hb]
 obtain⟨y,h,n,rfl⟩:=this;exact⟨n,h⟩
def vars:List Va:=[⟨[98,97,108,97,110,99,101],2⟩,⟨[108,111,119,101,115,116],2⟩,⟨[118,111,108,117,109,101],2⟩,⟨[97,109,111,117,110,116],2⟩,⟨[99,111,117,110,116],1⟩,⟨[97,103,101],1⟩,⟨[100,97,121],4⟩]
def ZP:O X 174 []=some (.ow 272 (aB Va.v vars)):=aI (fc:=OO) rfl rfl rfl (by kernel_rfl)
def t42 (x:nV)(h:pH 65 x.when.cells)(h':pH 65 x.amount.cells):∃n:Int,O X 132 [x.v]=some (.i .i64 n):=by
 obtain⟨t,ht⟩:=OG (X:=X) x.name;have CA:=ZP (X:=X);obtain⟨n,hn⟩:=YH (X:=X) x.when.cells h vars (by decide) 5;obtain⟨m,hm⟩:=YH (X:=X) x.amount.cells h' vars (by decide) 2;have:∃y,O X 132 [x.v]=some y/\I1 y:=by refine gZ (fc:=FE) rfl rfl rfl ?_;generalize aB Va.v vars=vs at CA hn hm;by_cases h0:n=0<;>cases t<;>simp[FE,ht,CA,hn,hm,h0]
 obtain⟨y,h,n,rfl⟩:=this;exact⟨n,h⟩
def Mv:iB:=⟨[],[],[]⟩
def t40 (l:List iB)(s:List UInt8)(h:l.length<=1000):∃(c:iB) (t:Bool),O X 130 [.l (aB iB.v l),.s s]=some (.t [c.v,.b t]):=by
 have hl:∃r,bP (O X) [0,1,4,6] TR [(0,.l (aB iB.v l)),(1,.s s),(4,.bx Mv.cells),(6,.i .i64 ((0:Nat):Int))]=some r/\((∃c:iB,r=(.r,[(4,.bx c.cells),(5,.b true)]))\/r=(.e 0,[(4,.bx Mv.cells)])):=by refine lK (fun i=>[(0,.l (aB iB.v l)),(1,.s s),(4,.bx Mv.cells),(6,.i .i64 (i:Int))]) l.length _ (by simp) (fun i hi=> ?_) (by simp[TR]);have hw:=bC (i+1) (by omega);by_cases hc:l[i].name=s;exact⟨(.r,[(4,.bx l[i].cells),(5,.b true)]),by simp[TR,hi,hc,Mv],.inr ⟨by simp,.inl ⟨l[i],rfl⟩⟩⟩;simp[-Prod.exists,TR,hi,hw,hc]
 obtain⟨r,hl,hr⟩:=hl;simp only[fU] at hl;rw[show Mv.cells=[.s [],.l [],.l []] from rfl] at hl hr;rcases hr with⟨c,rfl⟩|rfl;exact⟨c,true,aI (fc:=Sj) rfl rfl rfl (by simp[Sj,bA,hl])⟩;exact⟨Mv,false,aI (fc:=Sj) rfl rfl rfl (by simp[Sj,bA,hl,Mv])⟩
end Go.Proofs.YtdlpbedneamebaaGreatDoor
