/-
Plain laws and walks: part of the proof of the last text.
-/
import Derived.Test.YtdlpbedneamebaaGreatDoorTV
set_option linter.all false
namespace Go.Proofs.YtdlpbedneamebaaGreatDoor
open Go.VM
variable {X:aU}
def Uv {α:Type}(f:α->V)(n:Nat)(hf:∀x,(f x).cells.length=n)(o:aU)(l:List α)(k:Nat)(h:k<=l.length):aS o (.slc n false true) [.l (aB f l),.i .i64 (k:Int)]=some (.l (aB f (l.take k))):=by
 have hb:pK (aB f l).length false true [.i .i64 (k:Int)]=some (0,k):=by
  have:(k:Int)<=((aB f l).length:Int):=by simp;omega
  simp only[pK];rw[aY ⟨by omega,this⟩];simp
 have ha:(aB f l).all (fun x=>x.cells.length==n)=true:=mU fun x=>by simp[hf x]
 simp only[aS,ha,jA,hb,eB,JK];simp[aB]
def bB3 {α:Type}(f:α->V)(n:Nat)(hf:∀x,(f x).cells.length=n)(o:aU)(l:List α)(k:Nat)(h:k<=l.length):aS o (.slc n true false) [.l (aB f l),.i .i64 (k:Int)]=some (.l (aB f (l.drop k))):=by
 have hb:pK (aB f l).length true false [.i .i64 (k:Int)]=some (k,l.length):=by
  have:(k:Int)<=((aB f l).length:Int):=by simp;omega
  simp only[pK];rw[aY ⟨by omega,this⟩];simp
 have ha:(aB f l).all (fun x=>x.cells.length==n)=true:=mU fun x=>by simp[hf x]
 simp only[aS,ha,jA,hb,eB];simp only[aB];rw[rM (by simp),LH]
structure Mo where
 cur:List UInt8
 amt:Int
abbrev Mo.cells (x:Mo):List V:=[.s x.cur,.i .i64 x.amt]
abbrev Mo.v (x:Mo):V:= .a ([.s x.cur,.i .i64 x.amt])
@[simp] def Mo.all_len (l:List Mo):(aB Mo.v l).all (fun x=>x.cells.length==2)=true:=mU fun _=>rfl
@[simp] def Mo.len_all (l:List Mo):(∀x∈aB Mo.v l,x.cells.length=2)=True:=qB fun _=>rfl
def gM (c:List UInt8):List Mo->Int
 |[]=>0|m::l=>(if m.cur=c then m.amt else 0)+gM c l
def gL (c:List UInt8):List bG->Int
 |[]=>0|m::l=>(if m.currency=c then m.amount else 0)+gL c l
def Lf (c:List UInt8):∀a b:List Mo,gM c (a++b)=gM c a+gM c b
 |[],b=>by simp[gM]|m::a,b=>by simp only[A5,gM,Lf c a b];omega
def aU7 (c:List UInt8):∀a b:List bG,gL c (a++b)=gL c a+gL c b
 |[],b=>by simp[gL]|m::a,b=>by simp only[A5,gL,aU7 c a b];omega
def Ue (c:List UInt8)(l:List bG){i:Nat}(hi:i<l.length):gL c (l.take (i+1))=gL c (l.take i)+(if l[i].currency=c then l[i].amount else 0):=by rw[H1 hi,aU7];simp[gL]
def CP {a b:Int}:IntKind.i64.wrap a=IntKind.i64.wrap b↔a % 18446744073709551616=b % 18446744073709551616:=by simp only[oV];omega
def eB0 (l:List bG)(i:Nat)(hi:i<l.length)(out:List Mo)(ho:out.length<=1000):∃k:Nat,k<=out.length/\bP (O X) [0,3,4,5,6] Pe [(0,.l (aB bG.v l)),(3,.ow 122 (aB Mo.v out)),(4,.i .i64 i),(5,.ow 122 []),(6,.i .i64 0)]=some (.e 2,[(0,.l (aB bG.v l)),(3,.ow 122 (aB Mo.v out)),(4,.i .i64 i),(5,.ow 122 []),(6,.i .i64 k)]):=by
 have:∃r,bP (O X) [0,3,4,5,6] Pe [(0,.l (aB bG.v l)),(3,.ow 122 (aB Mo.v out)),(4,.i .i64 i),(5,.ow 122 []),(6,.i .i64 ((0:Nat):Int))]=some r/\∃k:Nat,k<=out.length/\r=(.e 2,[(0,.l (aB bG.v l)),(3,.ow 122 (aB Mo.v out)),(4,.i .i64 i),(5,.ow 122 []),(6,.i .i64 k)]):=by refine lK (fun k=>[(0,.l (aB bG.v l)),(3,.ow 122 (aB Mo.v out)),(4,.i .i64 i),(5,.ow 122 []),(6,.i .i64 (k:Int))]) out.length _ (by simp) (fun k hk=> ?_) ⟨(.e 2,[(0,.l (aB bG.v l)),(3,.ow 122 (aB Mo.v out)),(4,.i .i64 i),(5,.ow 122 []),(6,.i .i64 out.length)]),by simp[Pe],by simp,out.length,dD _,rfl⟩;have hw:=bC (k+1) (by omega);by_cases hb:Op.bytesLess out[k].cur l[i].currency=true;exact⟨_,by simp[Pe,hi,hk,hw,hb];rfl,.inl ⟨rfl,by simp⟩⟩;exact⟨(.e 2,[(0,.l (aB bG.v l)),(3,.ow 122 (aB Mo.v out)),(4,.i .i64 i),(5,.ow 122 []),(6,.i .i64 k)]),by simp[Pe,hi,hk,hb],.inr ⟨by simp,k,by omega,rfl⟩⟩
 obtain⟨_,h,k,hk,rfl⟩:=this;exact⟨k,hk,h⟩
set_option maxHeartbeats 8000000 in
def t67 (l:List bG)(h:l.length<=1000):∃out:List Mo,O X 207 [.l (aB bG.v l)]=some (.ow 122 (aB Mo.v out))/\out.length<=l.length/\∀c,IntKind.i64.wrap (gM c out)=IntKind.i64.wrap (gL c l):=by
 have hl:∃r,bP (O X) [0,3,4] Pd [(0,.l (aB bG.v l)),(3,.ow 122 (aB Mo.v [])),(4,.i .i64 ((0:Nat):Int))]=some r/\∃out:List Mo,r=(.e 0,[(3,.ow 122 (aB Mo.v out))])/\out.length<=l.length/\∀c,IntKind.i64.wrap (gM c out)=IntKind.i64.wrap (gL c l):=by
  refine dW (fun i aA=>∃out:List Mo,aA=[(0,.l (aB bG.v l)),(3,.ow 122 (aB Mo.v out)),(4,.i .i64 (i:Int))]/\out.length<=i/\∀c,IntKind.i64.wrap (gM c out)=IntKind.i64.wrap (gL c (l.take i))) l.length _ (fun i aA hI=> ?_) (fun i aA hi hI=> ?_) (fun aA hI=> ?_) l.length 0 _ (by omega) ⟨[],rfl,by simp,fun c=>by simp[gM,gL]⟩;obtain⟨out,rfl,_⟩:=hI;simp
  ·obtain⟨out,rfl,bT,hs⟩:=hI;left;have hw:=bC (i+1) (by omega);obtain⟨k,hk,hl⟩:=eB0 (X:=X) l i hi out (by omega);have fM:=Uv Mo.v 2 (fun _=>rfl) (O X) out k hk;have hA:(aB Mo.v out).length=out.length:=by simp
   have hTc:∀m:List Mo,(∀y∈aB Mo.v m,y.cells.length=2)=True:=fun m=>qB fun _=>rfl;have hTl:(aB Mo.v (out.take k)).length<=1000:=by simp;omega
   have hap1:(aB Mo.v (out.take k)).length*24<=140737488355328:=by omega
   have hap2:((aB Mo.v (out.take k)).length+1)*24<=140737488355328:=by omega
   by_cases hm:∃gD:k<out.length,out[k].cur=l[i].currency
   ·obtain⟨gD,EH⟩:=hm;have hwk:=bC (k+1) (by omega);have cJ:=bB3 Mo.v 2 (fun _=>rfl) (O X) out (k+1) (by omega);have hDl:(aB Mo.v (out.drop (k+1))).length<=1000:=by simp;omega
    have hap3:((aB Mo.v (out.take k)).length+1+(aB Mo.v (out.drop (k+1))).length)*24<=140737488355328:=by omega
    have hT1:=hTc (out.take k);have hT2:=hTc (out.drop (k+1));refine⟨[(0,.l (aB bG.v l)),(3,.ow 122 (aB Mo.v (out.take k++⟨l[i].currency,IntKind.i64.wrap (l[i].amount+out[k].amt)⟩::out.drop (k+1)))),(4,.i .i64 ((i+1:Nat):Int))],?_,_,rfl,by simp;omega,fun c=> ?_⟩;have eA:aB Mo.v (out.take k++⟨l[i].currency,IntKind.i64.wrap (l[i].amount+out[k].amt)⟩::out.drop (k+1))=aB Mo.v (out.take k)++ .a [.s l[i].currency,.i .i64 (IntKind.i64.wrap (l[i].amount+out[k].amt))]::aB Mo.v (out.drop (k+1)):=by simp[aB]
    rw[eA];simp only[Int.natCast_add,Int.natCast_one] at cJ;generalize aB Mo.v (out.take k)=T at*;generalize aB Mo.v (out.drop (k+1))=D at*;simp(config := { maxSteps := 1000000 }) [Pd,bA,hi,hw,hl,fM,cJ,gD,EH,hwk,hap1,hap2,hap3,hT1,hT2]
    ·have rE:out=out.take k++out[k]::out.drop (k+1):=by rw[List.getElem_cons_drop,DZ]
     have fR:=hs c
     conv at fR=>lhs;rw[rE,Lf,gM]
     rw[Lf,gM,Ue c l hi];rw[CP] at fR⊢;have:=oV (l[i].amount+out[k].amt);rw[EH] at fR;by_cases hc:l[i].currency=c;simp only[hc,jA] at fR⊢;omega;simp only[hc,mW] at fR⊢;omega
   ·have cJ:=bB3 Mo.v 2 (fun _=>rfl) (O X) out k hk;have hDl:(aB Mo.v (out.drop k)).length<=1000:=by simp;omega
    have hap3:((aB Mo.v (out.take k)).length+1+(aB Mo.v (out.drop k)).length)*24<=140737488355328:=by omega
    have hT1:=hTc (out.take k);have hT2:=hTc (out.drop k);refine⟨[(0,.l (aB bG.v l)),(3,.ow 122 (aB Mo.v (out.take k++⟨l[i].currency,l[i].amount⟩::out.drop k))),(4,.i .i64 ((i+1:Nat):Int))],?_,_,rfl,by simp;omega,fun c=> ?_⟩;have eA:aB Mo.v (out.take k++⟨l[i].currency,l[i].amount⟩::out.drop k)=aB Mo.v (out.take k)++ .a [.s l[i].currency,.i .i64 l[i].amount]::aB Mo.v (out.drop k):=by simp[aB]
    rw[eA];by_cases gD:k<out.length;have EH:¬out[k].cur=l[i].currency:=fun e=>hm ⟨gD,e⟩;generalize aB Mo.v (out.take k)=T at*;generalize aB Mo.v (out.drop k)=D at*;simp(config := { maxSteps := 1000000 }) [Pd,bA,hi,hw,hl,fM,cJ,gD,EH,hap1,hap2,hap3,hT1,hT2];have iY:¬(k:Int)<(out.length:Int):=by omega
    generalize aB Mo.v (out.take k)=T at*;generalize aB Mo.v (out.drop k)=D at*;simp(config := { maxSteps := 1000000 }) [Pd,bA,hi,hw,hl,fM,cJ,iY,hap1,hap2,hap3,hT1,hT2]
    ·have rE:out=out.take k++out.drop k:=(DZ ..).symm;have fR:=hs c
     conv at fR=>lhs;rw[rE,Lf]
     rw[Lf,gM,Ue c l hi];rw[CP] at fR⊢;simp only;split<;>omega
  obtain⟨out,rfl,bT,hs⟩:=hI;exact⟨(.e 0,[(3,.ow 122 (aB Mo.v out))]),by simp[Pd],by simp,out,rfl,bT,fun c=>by rw[hs,D0]⟩
 obtain⟨_,hl,out,rfl,bT,hs⟩:=hl;simp only[fU] at hl;rw[eQ0] at hl;refine⟨out,aI (fc:=JA) rfl rfl rfl ?_,bT,hs⟩;generalize aB Mo.v out=D at hl⊢;simp[JA,bA,hl]
def IP (P:Prop)(y:V):Prop:=∃n,y= .i .i64 n/\(n=0->P)
@[simp] def gQ7 (P:Prop)(n:Int):IP P (.i .i64 n)=(n=0->P):=by apply propext;constructor;rintro⟨m,h,hp⟩ h0;cases h;exact hp h0;intro h;exact⟨n,rfl,h⟩
def BP (P:Prop)(y:V):Prop:=∃t,y= .b t/\(t=true->P)
@[simp] def gR3 (P:Prop)(t:Bool):BP P (.b t)=(t=true->P):=by apply propext;constructor;rintro⟨m,h,hp⟩ h0;cases h;exact hp h0;intro h;exact⟨t,rfl,h⟩
def Xt (c:List UInt8):∀(l:List Mo),(∀m∈l,m.amt=0)->gM c l=0
 |[],_=>rfl|m::l,h=>by rw[gM,h m (dC ..),Xt c l fun x hx=>h x (dL _ hx)];split<;>rfl
def EU (l:List bG):Prop:=∀c,IntKind.i64.wrap (gL c l)=0
def Kl (e:aW):Prop:=e.key.length<=48/\e.text.length<=64/\∀x∈e.legs,x.currency.length=3
def eB4 (e:aW)(h:e.legs.length<=12):∃r,bP (O X) [1,3] GB [(1,.bx e.cells),(3,.i .i64 0)]=some r/\((∃n:Int,r=(.r,[(2,.i .i64 n)])/\n≠0)\/(r=(.e 0,[(1,.bx e.cells)])/\∀x∈e.legs,x.currency.length=3)):=by
 have:=dW (o:=O X) (kin:=[1,3]) (c:=GB) (fun i aA=>aA=[(1,.bx e.cells),(3,.i .i64 (i:Int))]/\∀(k:Nat) (hk:k<e.legs.length),k<i->e.legs[k].currency.length=3) e.legs.length (fun r=>(∃n:Int,r=(.r,[(2,.i .i64 n)])/\n≠0)\/(r=(.e 0,[(1,.bx e.cells)])/\∀x∈e.legs,x.currency.length=3)) (fun i aA hI=>by obtain⟨rfl,_⟩:=hI;simp) (fun i aA hi hI=>by
  obtain⟨rfl,hz⟩:=hI;have hw:=bC (i+1) (by omega);obtain⟨n,hn,hc⟩:=cW4 (X:=X) e.legs[i];by_cases h0:n=0;left;refine⟨[(1,.bx e.cells),(3,.i .i64 ((i+1:Nat):Int))],by simp[GB,hi,hw,hn,h0],rfl,fun k hk kY=> ?_⟩;by_cases e:k=i;subst e;exact hc h0;exact hz k hk (by omega);right;exact⟨(.r,[(2,.i .i64 n)]),by simp[GB,hi,hn,h0],by simp,.inl ⟨n,rfl,h0⟩⟩) (fun aA hI=>by
  obtain⟨rfl,hz⟩:=hI;refine⟨(.e 0,[(1,.bx e.cells)]),by simp[GB],by simp,.inr ⟨rfl,fun m hm=> ?_⟩⟩;obtain⟨k,hk,rfl⟩:=lH hm;exact hz k hk hk) e.legs.length 0 [(1,.bx e.cells),(3,.i .i64 ((0:Nat):Int))] (by omega) ⟨rfl,fun k _ h=>absurd h (by omega)⟩
 simpa using this
def bN6 (out:List Mo)(h:out.length<=1000):∃r,bP (O X) [5,6] xE [(5,.ow 122 (aB Mo.v out)),(6,.i .i64 0)]=some r/\(r=(.r,[(2,.i .i64 15)])\/(r=(.e 2,[])/\∀m∈out,m.amt=0)):=by
 have:=dW (o:=O X) (kin:=[5,6]) (c:=xE) (fun i aA=>aA=[(5,.ow 122 (aB Mo.v out)),(6,.i .i64 (i:Int))]/\∀(k:Nat) (hk:k<out.length),k<i->out[k].amt=0) out.length (fun r=>r=(.r,[(2,.i .i64 15)])\/(r=(.e 2,[])/\∀m∈out,m.amt=0)) (fun i aA hI=>by obtain⟨rfl,_⟩:=hI;simp) (fun i aA hi hI=>by
  obtain⟨rfl,hz⟩:=hI;have hw:=bC (i+1) (by omega);by_cases h0:out[i].amt=0;left;refine⟨[(5,.ow 122 (aB Mo.v out)),(6,.i .i64 ((i+1:Nat):Int))],by simp[xE,hi,hw,h0],rfl,fun k hk kY=> ?_⟩;by_cases e:k=i;subst e;exact h0;exact hz k hk (by omega);right;exact⟨(.r,[(2,.i .i64 15)]),by simp[xE,hi,h0],by simp,.inl rfl⟩) (fun aA hI=>by
  obtain⟨rfl,hz⟩:=hI;refine⟨(.e 2,[]),by simp[xE],by simp,.inr ⟨rfl,fun m hm=> ?_⟩⟩;obtain⟨k,hk,rfl⟩:=lH hm;exact hz k hk hk) out.length 0 [(5,.ow 122 (aB Mo.v out)),(6,.i .i64 ((0:Nat):Int))] (by omega) ⟨rfl,fun k _ h=>absurd h (by omega)⟩
 simpa using this
set_option maxHeartbeats 4000000 in
def t46 (e:aW):∃n:Int,O X 175 [e.v]=some (.i .i64 n)/\(n=0->e.legs.length<=12/\EU e.legs/\Kl e):=by
 have:∃y,O X 175 [e.v]=some y/\IP (e.legs.length<=12/\EU e.legs/\Kl e) y:=by
  refine gZ (fc:=j1) rfl rfl rfl ?_;obtain⟨t1,h1,k1⟩:=YF (X:=X) e.key;obtain⟨t2,h2,k2⟩:=Uo (X:=X) e.text 64 32 (by omega);have h3:=u7 (X:=X) e.booked;have h4:=u7 (X:=X) e.value;have h5:=u7 (X:=X) e.period;generalize decide (0<=e.booked/\e.booked<=73048)=t3 at h3;generalize decide (0<=e.value/\e.value<=73048)=t4 at h4;generalize decide (0<=e.period/\e.period<=73048)=t5 at h5;cases t1 with|false=>simp[j1,h1]|true=>
  cases t2 with|false=>simp[j1,h1,h2]|true=>
  cases t3 with|false=>simp[j1,h1,h2,h3]|true=>
  cases t4 with|false=>simp[j1,h1,h2,h3,h4]|true=>
  by_cases c1:e.kind<1;simp[j1,h1,h2,h3,h4,c1];by_cases c2:14<e.kind;simp[j1,h1,h2,h3,h4,c1,c2];by_cases c3:e.auth<0;simp[j1,h1,h2,h3,h4,c1,c2,c3];by_cases c4:3<e.auth;simp[j1,h1,h2,h3,h4,c1,c2,c3,c4];by_cases c5:e.period≠0/\t5=false;obtain⟨c5,rfl⟩:=c5;simp[j1,h1,h2,h3,h4,h5,c1,c2,c3,c4,c5];by_cases c6:(e.legs.length:Int)<2;by_cases c7:e.period=0;simp[j1,h1,h2,h3,h4,c1,c2,c3,c4,c6,c7];have:t5=true:=by cases t5 with |true=>rfl|false=>exact absurd ⟨c7,rfl⟩ c5
  subst this;simp[j1,h1,h2,h3,h4,h5,c1,c2,c3,c4,c6,c7];by_cases c8:(12:Int)<(e.legs.length:Int);by_cases c7:e.period=0;simp[j1,h1,h2,h3,h4,c1,c2,c3,c4,c6,c7,c8];have:t5=true:=by cases t5 with |true=>rfl|false=>exact absurd ⟨c7,rfl⟩ c5
  subst this;simp[j1,h1,h2,h3,h4,h5,c1,c2,c3,c4,c6,c7,c8];have kF:e.legs.length<=12:=by omega
  obtain⟨r1,iX,iI⟩:=eB4 (X:=X) e kF;obtain⟨out,vH,hol,hs⟩:=t67 (X:=X) e.legs (by omega);obtain⟨r2,kX,nP⟩:=bN6 (X:=X) out (by omega);have fC:(∀m∈out,m.amt=0)->EU e.legs:=fun hz c=>by rw[<-hs,Xt c out hz];exact bC 0 (by omega)
  generalize aB Mo.v out=D at vH kX;rcases iI with⟨n,rfl,hn⟩|⟨rfl,EH⟩;by_cases c7:e.period=0;simp only[aW.cells,c7] at iX;simp[j1,bA,h1,h2,h3,h4,c1,c2,c3,c4,c6,c7,c8,iX,hn];have:t5=true:=by cases t5 with |true=>rfl|false=>exact absurd ⟨c7,rfl⟩ c5
  subst this;simp[j1,bA,h1,h2,h3,h4,h5,c1,c2,c3,c4,c6,c7,c8,iX,hn];rcases nP with rfl|⟨rfl,hz⟩;by_cases c7:e.period=0;simp only[aW.cells,c7] at iX;simp[j1,bA,h1,h2,h3,h4,c1,c2,c3,c4,c6,c7,c8,iX,vH,kX];have:t5=true:=by cases t5 with |true=>rfl|false=>exact absurd ⟨c7,rfl⟩ c5
  subst this;simp[j1,bA,h1,h2,h3,h4,h5,c1,c2,c3,c4,c6,c7,c8,iX,vH,kX];have hf:=fC hz;have FR:Kl e:=⟨k1 rfl,by have:=k2 rfl;omega,EH⟩;by_cases c7:e.period=0;simp only[aW.cells,c7] at iX;simp[j1,bA,h1,h2,h3,h4,c1,c2,c3,c4,c6,c7,c8,iX,vH,kX,hf,kF,FR];have:t5=true:=by cases t5 with |true=>rfl|false=>exact absurd ⟨c7,rfl⟩ c5
  subst this;simp[j1,bA,h1,h2,h3,h4,h5,c1,c2,c3,c4,c6,c7,c8,iX,vH,kX,hf,kF,FR]
 obtain⟨y,h,n,rfl,hp⟩:=this;exact⟨n,h,hp⟩
end Go.Proofs.YtdlpbedneamebaaGreatDoor
namespace Go.Proofs.YtdlpbedneamebaaGreatDoor
open Go.VM
variable {X:aU}
set_option maxHeartbeats 8000000 in
def dI8 (e:aW)(h:e.legs.length<=12)(hs:Kl e)(i:Nat)(hi:i<e.legs.length)(ts:List (List UInt8))(FP:ts.length=i):∃t:List UInt8,t.length<=200/\kE [1,3,4] (bI (O X) TM [(1,.bx e.cells),(3,.ow 9 (aB V.s ts)),(4,.i .i64 (i:Int))])=some (.n,[(1,.bx e.cells),(3,.ow 9 (aB V.s (ts++[t]))),(4,.i .i64 ((i+1:Nat):Int))]):=by
 have hw:=bC (i+1) (by omega);obtain⟨a,ha,hal⟩:=t212 (X:=X) e.legs[i].account;obtain⟨n,hn,hnl⟩:=t212 (X:=X) e.legs[i].amount;have hc:=hs.2.2 _ (gN hi);obtain⟨t,ht,kW⟩:=YI (X:=X) [a,n,e.legs[i].currency] 21 (by omega) (by simp) (fun x hx=>by
  rcases eP.1 hx with rfl|hx;omega;rcases eP.1 hx with rfl|hx;omega;rw[uQ.1 hx];omega)
 refine⟨t,by simp at kW;omega,?_⟩;have e1:aB V.s (ts++[t])=aB V.s ts++[.s t]:=by simp[aB]
 have wN:(aB V.s ts).length=i:=by simp[FP]
 have hb:(i+1)*16<=140737488355328:=by omega
 rw[e1];generalize aB V.s ts=U at wN⊢;simp only[aB,fF,oF] at ht;simp(config := { maxSteps := 1000000 }) [TM,hi,hw,ha,hn,ht,wN,hb]
set_option maxHeartbeats 4000000 in
def cW9 (e:aW)(h:e.legs.length<=12)(hs:Kl e):∃s:List UInt8,O X 178 [e.v]=some (.s s)/\s.length<=1000000:=by
 have hx:=dW (o:=O X) (kin:=[1,3,4]) (c:=TM) (fun i aA=>∃ts:List (List UInt8),aA=[(1,.bx e.cells),(3,.ow 9 (aB V.s ts)),(4,.i .i64 (i:Int))]/\ts.length=i/\∀t∈ts,t.length<=200) e.legs.length (fun r=>∃ts:List (List UInt8),r=(.e 0,[(1,.bx e.cells),(3,.ow 9 (aB V.s ts))])/\ts.length<=12/\∀t∈ts,t.length<=200) (fun i aA hI=>by obtain⟨ts,rfl,_⟩:=hI;simp) (fun i aA hi hI=>by
  obtain⟨ts,rfl,hl,ht⟩:=hI;left;obtain⟨t,kW,hr⟩:=dI8 (X:=X) e h hs i hi ts hl;refine⟨_,hr,ts++[t],rfl,by simp[hl],fun x hx=> ?_⟩;rcases iC.1 hx with hx|hx;exact ht x hx;rw[uQ.1 hx];exact kW) (fun aA hI=>by
  obtain⟨ts,rfl,hl,ht⟩:=hI;exact⟨(.e 0,[(1,.bx e.cells),(3,.ow 9 (aB V.s ts))]),by simp[TM],by simp,ts,rfl,by omega,ht⟩) e.legs.length 0 [(1,.bx e.cells),(3,.ow 9 []),(4,.i .i64 ((0:Nat):Int))] (by omega) ⟨[],rfl,rfl,by simp⟩
 obtain⟨r,hx,ts,rfl,hl,ht⟩:=hx;simp only[fU] at hx;obtain⟨s0,h0,l0⟩:=t212 (X:=X) e.id;obtain⟨s1,h1,l1⟩:=t212 (X:=X) e.booked;obtain⟨s2,h2,l2⟩:=t212 (X:=X) e.value;obtain⟨s3,h3,l3⟩:=t212 (X:=X) e.kind;obtain⟨s4,h4,l4⟩:=t212 (X:=X) e.auth;obtain⟨s5,h5,l5⟩:=t212 (X:=X) e.period;obtain⟨p,hp,lp⟩:=YI (X:=X) ts 200 (by omega) (by omega) ht;have lp':p.length<=12*222:=fG lp (yR _ hl);obtain⟨q,hq,lq⟩:=YI (X:=X) [s0,s1,s2,s3,s4,s5,e.key,e.text,p] 3000 (by omega) (by simp) (fun x hx=>by
  have hk:=hs.1;have ht:=hs.2.1;simp only[eP,xG,xH] at hx;rcases hx with rfl|rfl|rfl|rfl|rfl|rfl|rfl|rfl|rfl<;>omega)
 refine⟨q,aI (fc:=IJ) rfl rfl rfl ?_,by simp at lq;omega⟩;simp only[aB,fF,oF] at hq;generalize aB V.s ts=U at hx hp;simp(config := { maxSteps := 1000000 }) [IJ,bA,hx,h0,h1,h2,h3,h4,h5,hp,hq]
set_option maxHeartbeats 4000000 in
def aZ0 (l:List aW)(e:aW)(hl:l.length<=1000)(h:e.legs.length<=12)(hs:Kl e):∃a:aW,O X 137 [.l (AQ l),e.v]=some a.v/\a.id=(l.length:Int)+1/\a.legs.length<=12:=by
 have hw:=bC ((l.length:Int)+1) (by omega);obtain⟨s,cJ,hsl⟩:=cW9 (X:=X) {e with id:=(l.length:Int)+1} h hs;have key:∀prev:Int,∃m,O X 177 [.i .u64 prev,.s s]=some (.i .u64 m):=fun prev=>cX0 (X:=X) prev s hsl;by_cases h0:0<l.length;obtain⟨p,hp⟩:∃p,p+1=l.length:=⟨l.length - 1,by omega⟩;have eF:p<l.length:=by omega
 have cU:IntKind.i64.wrap ((l.length:Int) - 1)=(p:Int):=by rw[bC _ (by omega)];omega
 obtain⟨m,hm⟩:=key l[p].chain;refine⟨{e with id:=(l.length:Int)+1,chain:=m},aI (fc:=Sg) rfl rfl rfl ?_,rfl,h⟩;simp(config := { maxSteps := 1000000 }) [Sg,h0,cU,eF,hw,cJ,hm];obtain⟨m,hm⟩:=key 0;refine⟨{e with id:=(l.length:Int)+1,chain:=m},aI (fc:=Sg) rfl rfl rfl ?_,rfl,h⟩;simp(config := { maxSteps := 1000000 }) [Sg,h0,hw,cJ,hm]
def cX1 (a b:List bG)(ha:a.length<=1000):∃t,O X 176 [.l (aB bG.v a),.l (aB bG.v b)]=some (.b t):=by
 by_cases bM:(a.length:Int)=(b.length:Int);have hl:∃r,bP (O X) [0,1,5] Wq [(0,.l (aB bG.v a)),(1,.l (aB bG.v b)),(5,.i .i64 (0:Nat))]=some r/\(r=(.r,[(4,.b false)])\/r=(.e 0,[])):=by
  refine lK (fun i=>[(0,.l (aB bG.v a)),(1,.l (aB bG.v b)),(5,.i .i64 (i:Int))]) a.length _ (by simp) (fun i hi=> ?_) (by simp[Wq]);have hw:=bC (i+1) (by omega);have hib:i<b.length:=by omega
  by_cases h1:a[i].account=b[i].account<;>by_cases h2:a[i].amount=b[i].amount<;>by_cases h3:a[i].currency=b[i].currency<;>simp[-Prod.exists,Wq,hi,hib,hw,h1,h2,h3]
 obtain⟨r,hl,hr⟩:=hl;simp only[fU] at hl;rcases hr with rfl|rfl;exact⟨false,aI (fc:=Mp) rfl rfl rfl (by simp[Mp,bM,bA,hl])⟩;exact⟨true,aI (fc:=Mp) rfl rfl rfl (by simp[Mp,bM,bA,hl])⟩;exact⟨false,aI (fc:=Mp) rfl rfl rfl (by simp[Mp,bM])⟩
set_option maxHeartbeats 4000000 in
def aZ1 (a b:aW)(ha:a.legs.length<=1000):∃t,O X 136 [a.v,b.v]=some (.b t)/\(t=true->a.id=b.id):=by
 obtain⟨u,hu⟩:=cX1 (X:=X) a.legs b.legs ha;have:∃y,O X 136 [a.v,b.v]=some y/\BP (a.id=b.id) y:=by
  refine gZ (fc:=WN) rfl rfl rfl ?_;by_cases h0:a.id=b.id
  ·simp only[h0];simp(config := { maxSteps := 1000000 }) [WN,h0,hu];repeat' split
   all_goals simp
  simp[WN,h0]
 obtain⟨y,h,t,rfl,ht⟩:=this;exact⟨t,h,ht⟩
end Go.Proofs.YtdlpbedneamebaaGreatDoor
