/-
Plain laws and walks: part of the proof of the last text.
-/
import Derived.Test.YtdlpbedneamebaaGreatDoorTX
set_option linter.all false
namespace Go.Proofs.YtdlpbedneamebaaGreatDoor
open Go.VM
variable {X:aU}
def Ks (h:fS):Prop:=0<=h.amount/\h.amount<=1000000000000
def Kx (x:cF):Prop:=0<=x.amount/\x.amount<=1000000000000
set_option maxHeartbeats 4000000 in
def u86 (h:fS):∃n:Int,O X 86 [h.v]=some (.i .i64 n)/\(n=0->Ks h):=by
 obtain⟨t,ht⟩:=t64 (X:=X) h.key;have a:=u7 (X:=X) h.from';have b:=u7 (X:=X) h.to';generalize decide (0<=h.from'/\h.from'<=73048)=u at a;generalize decide (0<=h.to'/\h.to'<=73048)=v at b;have:∃y,O X 86 [h.v]=some y/\IP (Ks h) y:=by
  refine gZ (fc:=M6) rfl rfl rfl ?_;unfold Ks;by_cases c1:h.amount<1
  ·cases t<;>cases u<;>cases v<;>simp[M6,ht,a,b,c1]<;>repeat' split
   all_goals(try simp)
  ·by_cases c2:1000000000000<h.amount
   ·cases t<;>cases u<;>cases v<;>simp[M6,ht,a,b,c1,c2]<;>repeat' split
    all_goals(try simp)
   ·cases t<;>cases u<;>cases v<;>simp[M6,ht,a,b,c1,c2]<;>repeat' split
    all_goals(try simp)
    all_goals(try omega)
 obtain⟨y,h,n,rfl,hn⟩:=this;exact⟨n,h,hn⟩
set_option maxHeartbeats 4000000 in
def u88 (b:cF):∃t,O X 88 [b.v]=some (.b t)/\(t=true->Kx b):=by
 have h1:=u7 (X:=X) b.from';have h2:=u7 (X:=X) b.to';generalize decide (0<=b.from'/\b.from'<=73048)=u at h1;generalize decide (0<=b.to'/\b.to'<=73048)=v at h2;have:∃y,O X 88 [b.v]=some y/\BP (Kx b) y:=by
  refine gZ (fc:=SH) rfl rfl rfl ?_;unfold Kx;by_cases h4:b.kind=4<;>cases u<;>cases v<;>simp[SH,h1,h2,h4]<;>repeat' split
  all_goals(try simp)
  all_goals(try omega)
 obtain⟨y,h,n,rfl,hn⟩:=this;exact⟨n,h,hn⟩
set_option maxHeartbeats 8000000 in
def u42 (l:List fS)(bT:l.length<=1000):∃n:Int,O X 42 [.l (aB fS.v l)]=some (.i .i64 n)/\(n=0->∀x∈l,Ks x):=by
 by_cases h1:(64:Int)<(l.length:Int);exact⟨5,aI (fc:=DG) rfl rfl rfl (by simp[DG,h1]),by simp⟩;obtain⟨r,hl,hr⟩:=dW (o:=O X) (kin:=[0,3]) (c:=BQ) (fun i aA=>aA=[(0,.l (aB fS.v l)),(3,.i .i64 (i:Int))]/\∀(k:Nat) (hk:k<l.length),k<i->Ks l[k]) l.length (fun r=>(∃n:Int,r=(.r,[(2,.i .i64 n)])/\n≠0)\/(r=(.e 0,[])/\∀x∈l,Ks x)) (fun i aA hI=>by obtain⟨rfl,_⟩:=hI;simp) (fun i aA hi hI=>by
  obtain⟨rfl,hz⟩:=hI;have hw:=bC (i+1) (by omega);obtain⟨n,hn,hB⟩:=u86 (X:=X) l[i];simp only[fS.v] at hn;obtain⟨t,ht⟩:=t49 (X:=X) (l.take i) l[i].key (by rw[gO];omega);have hs:=bB1 (X:=X) l i (by omega);by_cases qP:n=0;subst qP;have gC:∀(k:Nat) (hk:k<l.length),k<i+1->Ks l[k]:=fun k hk kY=>by by_cases ek:k=i;subst ek;exact hB rfl;exact hz k hk (by omega)
  by_cases h0:i=0;subst h0;rw[show l.take 0=[] from rfl,show aB fS.v []=[] from rfl] at hs ht;simp only[fU] at hs;cases t with|true=>right;exact⟨(.r,[(2,.i .i64 12)]),by simp[BQ,hi,hn,hs,ht],by simp,.inl ⟨12,rfl,by decide⟩⟩|false=>left;exact⟨_,by simp[BQ,hi,hn,hs,ht,w1],rfl,gC⟩
  obtain⟨p,hp⟩:∃p,p+1=i:=⟨i - 1,by omega⟩;have eF:p<l.length:=by omega
  have mH:0<i:=by omega
  have cU:IntKind.i64.wrap ((i:Int) - 1)=(p:Int):=by rw[bC _ (by omega)];omega
  by_cases hid:l[i].id<=l[p].id;right;exact⟨(.r,[(2,.i .i64 10)]),by simp[BQ,hi,hn,mH,cU,eF,hid],by simp,.inl ⟨10,rfl,by decide⟩⟩;cases t with|true=>right;exact⟨(.r,[(2,.i .i64 12)]),by simp[BQ,hi,hn,mH,cU,eF,hid,hs,ht],by simp,.inl ⟨12,rfl,by decide⟩⟩|false=>left;exact⟨_,by simp[BQ,hi,hw,hn,mH,cU,eF,hid,hs,ht],rfl,gC⟩
  right;exact⟨(.r,[(2,.i .i64 n)]),by simp[BQ,hi,hn,qP],by simp,.inl ⟨n,rfl,qP⟩⟩) (fun aA hI=>by
  obtain⟨rfl,hz⟩:=hI;refine⟨(.e 0,[]),by simp[BQ],by simp,.inr ⟨rfl,fun x hx=> ?_⟩⟩;obtain⟨k,hk,rfl⟩:=lH hx;exact hz k hk hk) l.length 0 [(0,.l (aB fS.v l)),(3,.i .i64 ((0:Nat):Int))] (by omega) ⟨rfl,fun k _ h=>absurd h (by omega)⟩
 simp only[fU] at hl;rcases hr with⟨n,rfl,hn⟩|⟨rfl,hz⟩;exact⟨n,aI (fc:=DG) rfl rfl rfl (by simp[DG,h1,bA,hl]),fun h=>absurd h hn⟩;exact⟨0,aI (fc:=DG) rfl rfl rfl (by simp[DG,h1,bA,hl]),fun _=>hz⟩
set_option maxHeartbeats 8000000 in
def u43 (l:List cF)(bT:l.length<=1000):∃n:Int,O X 43 [.l (aB cF.v l)]=some (.i .i64 n)/\(n=0->∀x∈l,Kx x):=by
 by_cases h1:(64:Int)<(l.length:Int);exact⟨5,aI (fc:=DF) rfl rfl rfl (by simp[DF,h1]),by simp⟩;obtain⟨r,hl,hr⟩:=dW (o:=O X) (kin:=[0,3]) (c:=BO) (fun i aA=>aA=[(0,.l (aB cF.v l)),(3,.i .i64 (i:Int))]/\∀(k:Nat) (hk:k<l.length),k<i->Kx l[k]) l.length (fun r=>(∃n:Int,r=(.r,[(2,.i .i64 n)])/\n≠0)\/(r=(.e 0,[])/\∀x∈l,Kx x)) (fun i aA hI=>by obtain⟨rfl,_⟩:=hI;simp) (fun i aA hi hI=>by
  obtain⟨rfl,hz⟩:=hI;have hw:=bC (i+1) (by omega);obtain⟨n,hn,hB⟩:=u88 (X:=X) l[i];simp only[cF.v] at hn;obtain⟨t,ht⟩:=t35 (X:=X) l[i].source;cases n with
  |false=>right;exact⟨(.r,[(2,.i .i64 1)]),by simp[BO,hi,hn],by simp,.inl ⟨1,rfl,by decide⟩⟩
  |true=>
   have gC:∀(k:Nat) (hk:k<l.length),k<i+1->Kx l[k]:=fun k hk kY=>by by_cases ek:k=i;subst ek;exact hB rfl;exact hz k hk (by omega)
   cases t with
   |false=>right;exact⟨(.r,[(2,.i .i64 4)]),by simp[BO,hi,hn,ht],by simp,.inl ⟨4,rfl,by decide⟩⟩
   |true=>
    by_cases h0:i=0;subst h0;left;exact⟨_,by simp[BO,hi,hn,ht,w1],rfl,gC⟩;obtain⟨p,hp⟩:∃p,p+1=i:=⟨i - 1,by omega⟩;have eF:p<l.length:=by omega
    have mH:0<i:=by omega
    have cU:IntKind.i64.wrap ((i:Int) - 1)=(p:Int):=by rw[bC _ (by omega)];omega
    by_cases hid:l[i].id<=l[p].id;right;exact⟨(.r,[(2,.i .i64 10)]),by simp[BO,hi,hn,ht,mH,cU,eF,hid],by simp,.inl ⟨10,rfl,by decide⟩⟩;left;exact⟨_,by simp[BO,hi,hw,hn,ht,mH,cU,eF,hid],rfl,gC⟩) (fun aA hI=>by
  obtain⟨rfl,hz⟩:=hI;refine⟨(.e 0,[]),by simp[BO],by simp,.inr ⟨rfl,fun x hx=> ?_⟩⟩;obtain⟨k,hk,rfl⟩:=lH hx;exact hz k hk hk) l.length 0 [(0,.l (aB cF.v l)),(3,.i .i64 ((0:Nat):Int))] (by omega) ⟨rfl,fun k _ h=>absurd h (by omega)⟩
 simp only[fU] at hl;rcases hr with⟨n,rfl,hn⟩|⟨rfl,hz⟩;exact⟨n,aI (fc:=DF) rfl rfl rfl (by simp[DF,h1,bA,hl]),fun h=>absurd h hn⟩;exact⟨0,aI (fc:=DF) rfl rfl rfl (by simp[DF,h1,bA,hl]),fun _=>hz⟩
def N7 (a:iN):Prop:=0<=a.extra/\a.extra<=1000000000000
set_option maxHeartbeats 8000000 in
def u40 (b:cD)(hp:b.products.length<=1000):∃n:Int,O X 40 [b.v]=some (.i .i64 n)/\(n=0->∀a∈b.accounts,N7 a):=by
 by_cases h6:(64:Int)<(b.accounts.length:Int);exact⟨5,aI (fc:=DI) rfl rfl rfl (by simp[DI,h6]),by simp⟩;obtain⟨r,hl,hr⟩:=dW (o:=O X) (kin:=[1,3]) (c:=AY) (fun i aA=>aA=[(1,.bx b.cells),(3,.i .i64 (i:Int))]/\∀(k:Nat) (hk:k<b.accounts.length),k<i->N7 b.accounts[k]) b.accounts.length (fun r=>(∃n:Int,r=(.r,[(2,.i .i64 n)])/\n≠0)\/(r=(.e 0,[])/\∀a∈b.accounts,N7 a)) (fun i aA hI=>by obtain⟨rfl,_⟩:=hI;simp) (fun i aA hi hI=>by
  obtain⟨rfl,hz⟩:=hI;have hw:=bC (i+1) (by omega);obtain⟨t,ht⟩:=t44 (X:=X) b.accounts[i];obtain⟨n,hn⟩:=t45 (X:=X) b b.accounts[i] hp;have gW:=u7 (X:=X) b.accounts[i].closed;generalize hA:b.accounts[i]=A at ht hn gW;have fQ:b.accounts[i]? =some A:=by rw[eI hi,hA]
  simp only[iN.v] at ht hn;generalize decide (0<=A.closed/\A.closed<=73048)=u at gW;by_cases hB:N7 A
  ·have gC:∀(k:Nat) (hk:k<b.accounts.length),k<i+1->N7 b.accounts[k]:=fun k hk kY=>by
    by_cases ek:k=i;subst ek;rw[hA];exact hB;exact hz k hk (by omega)
   have c1:¬A.extra<0:=by have:=hB.1;omega
   have c2:¬1000000000000<A.extra:=by have:=hB.2;omega
   have hside:(∃aN,kE [1,3] (bI (O X) AY [(1,.bx b.cells),(3,.i .i64 (i:Int))])=some (.n,aN)/\aN=[(1,.bx b.cells),(3,.i .i64 ((i+1:Nat):Int))])\/∃n:Int,bI (O X) AY [(1,.bx b.cells),(3,.i .i64 (i:Int))]=some (.r,[(2,.i .i64 n)])/\n≠0:=by
    by_cases h0:i=0
    ·subst h0;by_cases qP:n=0<;>cases u<;>cases t<;>simp[-Prod.exists,KU,AY,hi,hA,fQ,ht,hn,gW,qP,w1,c1,c2]<;>repeat' split
     all_goals(try simp_all[-Prod.exists])
     all_goals(try omega)
    ·obtain⟨p,hp⟩:∃p,p+1=i:=⟨i - 1,by omega⟩;have eF:p<b.accounts.length:=by omega
     have mH:0<i:=by omega
     have cU:IntKind.i64.wrap ((i:Int) - 1)=(p:Int):=by rw[bC _ (by omega)];omega
     by_cases qP:n=0<;>cases u<;>cases t<;>simp[-Prod.exists,KU,AY,hi,hA,fQ,eF,hw,cU,mH,ht,hn,gW,qP,c1,c2]<;>repeat' split
     all_goals(try simp_all[-Prod.exists])
     all_goals(try omega)
   rcases hside with⟨aN,h1,rfl⟩|⟨n,h1,h2⟩;exact .inl ⟨_,h1,rfl,gC⟩;exact .inr ⟨_,h1,by simp,.inl ⟨n,rfl,h2⟩⟩
  right;have hx:bI (O X) AY [(1,.bx b.cells),(3,.i .i64 (i:Int))]=some (.r,[(2,.i .i64 1)]):=by
   unfold N7 at hB;obtain⟨aid,aop,acl,aex,aow,apr,anu⟩:=A;simp only at hB ht gW;clear hz hn;by_cases c1:aex<0;by_cases c0:acl=0;subst c0;cases u<;>cases t<;>simp[AY,hi,hA,fQ,ht,gW,c1];by_cases c3:aop<=acl<;>cases u<;>cases t<;>simp[AY,hi,hA,fQ,ht,gW,c0,c1,c3];have c2:1000000000000<aex:=by omega
   by_cases c0:acl=0;subst c0;cases u<;>cases t<;>simp[AY,hi,hA,fQ,ht,gW,c1,c2];by_cases c3:aop<=acl<;>cases u<;>cases t<;>simp[AY,hi,hA,fQ,ht,gW,c0,c1,c2,c3]
  exact⟨_,hx,by simp,.inl ⟨1,rfl,by decide⟩⟩) (fun aA hI=>by
  obtain⟨rfl,hz⟩:=hI;refine⟨(.e 0,[]),by simp[AY],by simp,.inr ⟨rfl,fun x hx=> ?_⟩⟩;obtain⟨k,hk,rfl⟩:=lH hx;exact hz k hk hk) b.accounts.length 0 [(1,.bx b.cells),(3,.i .i64 ((0:Nat):Int))] (by omega) ⟨rfl,fun k _ h=>absurd h (by omega)⟩
 simp only[fU] at hl;rcases hr with⟨n,rfl,hn⟩|⟨rfl,hz⟩;exact⟨n,aI (fc:=DI) rfl rfl rfl (by simp[DI,h6,bA,hl]),fun h=>absurd h hn⟩;exact⟨0,aI (fc:=DI) rfl rfl rfl (by simp[DI,h6,bA,hl]),fun _=>hz⟩
end Go.Proofs.YtdlpbedneamebaaGreatDoor
