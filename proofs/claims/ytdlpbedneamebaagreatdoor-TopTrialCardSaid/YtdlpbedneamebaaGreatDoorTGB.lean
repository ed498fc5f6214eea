/-
Plain laws and walks: part of the proof of the last text.
-/
import Derived.Test.YtdlpbedneamebaaGreatDoorTX
import Derived.Test.YtdlpbedneamebaaGreatDoorTR
set_option linter.all false
namespace Go.Proofs.YtdlpbedneamebaaGreatDoor
open Go.VM
variable {X:aU}
def o35 (a b:List UInt8):O X 35 [.s a,.s b]=some (.i .i64 (Ft a b)):=c35 aW4 aV8 a b
def o96 (m:Mo)(c:List UInt8):O X 96 [m.v,.s c]=some (.i .i64 (Ft m.cur c)):=by refine aI (fc:=aF8) cP8 rfl rfl ?_;have h:=o35 (X:=X) m.cur c;simp[aF8,h]
def eV5 {a b:List UInt8}(h:Ft a b=0):a=b:=by unfold Ft at h;split at h;omega;rename_i h1;split at h;omega;rename_i h2;exact ZK h1 h2
def l95 (out:List Mo)(c:List UInt8)(h:out.length<=1000):∃m:Nat,m<=out.length/\bP (O X) [0,1,2,8,9,10] Mw [(0,.l (aB Mo.v out)),(1,.s c),(2,.f (.func 96) [] []),(8,.i .i64 out.length),(9,.i .i64 0),(10,.i .i64 out.length)]=some (.e 0,[(0,.l (aB Mo.v out)),(1,.s c),(2,.f (.func 96) [] []),(8,.i .i64 out.length),(9,.i .i64 m)]):=by
 have:=dW (o:=O X) (kin:=[0,1,2,8,9,10]) (c:=Mw) (fun k aA=>∃i j:Nat,aA=[(0,.l (aB Mo.v out)),(1,.s c),(2,.f (.func 96) [] []),(8,.i .i64 out.length),(9,.i .i64 (i:Int)),(10,.i .i64 (j:Int))]/\i<=j/\j<=out.length/\(j - i)+k<=out.length) out.length (fun r=>∃m:Nat,m<=out.length/\r=(.e 0,[(0,.l (aB Mo.v out)),(1,.s c),(2,.f (.func 96) [] []),(8,.i .i64 out.length),(9,.i .i64 (m:Int))])) (fun k aA hI=>by obtain⟨i,j,rfl,_⟩:=hI;simp) (fun k aA hk hI=>by
  obtain⟨i,j,rfl,h1,h3,h4⟩:=hI;by_cases pY:i<j;left;have hm:(i+j) / 2<out.length:=by omega
  have cU:IntKind.i64.wrap ((i:Int)+(j:Int))=(((i+j:Nat)):Int):=by rw[bC _ (by omega)];simp
  have eZ:IntKind.u64.wrap (((i+j:Nat)):Int)=(((i+j:Nat)):Int):=by rw[IntKind.wrap_u64];omega
  have s8:Int.fdiv (((i+j:Nat)):Int) 2=(((i+j) / 2:Nat):Int):=by rw[zS _ (by omega)];rfl
  have hc:=o96 (X:=X) out[(i+j) / 2] c;have hmi:i<=(i+j) / 2:=by omega
  have hmj:(i+j) / 2<j:=by omega
  generalize hmm:(i+j) / 2=m at hm s8 hc hmi hmj;generalize eK:i+j=s at cU eZ s8;have hw4:IntKind.i64.wrap (m:Int)=(m:Int):=bC _ (by omega);have hw5:IntKind.i64.wrap ((m:Int)+1)=(m:Int)+1:=bC _ (by omega);by_cases Bz:Ft out[m].cur c<0;refine⟨_,by simp[Mw,pY,cU,eZ,VU,s8,hw4,hw5,hm,hc,Bz],m+1,j,rfl,by omega,h3,by omega⟩;refine⟨_,by simp[Mw,pY,cU,eZ,VU,s8,hw4,hm,hc,Bz],i,m,rfl,hmi,by omega,by omega⟩;right;exact⟨_,by simp[Mw,pY],by simp,i,by omega,rfl⟩) (fun aA hI=>by
  obtain⟨i,j,rfl,h1,h3,h4⟩:=hI;have pY:¬i<j:=by omega
  exact⟨_,by simp[Mw,pY],by simp,i,by omega,rfl⟩) out.length 0 _ (by omega) ⟨0,out.length,rfl,by omega,dD _,by omega⟩
 obtain⟨r,hr,m,hm,rfl⟩:=this;exact⟨m,hm,by simpa using hr⟩
def cW3 (out:List Mo)(c:List UInt8)(h:out.length<=1000):∃(m:Nat) (t:Bool),O X 95 [.l (aB Mo.v out),.s c,.f (.func 96) [] []]=some (.t [.i .i64 m,.b t])/\m<=out.length/\(t=true->∃hm:m<out.length,out[m].cur=c):=by obtain⟨m,hm,hl⟩:=l95 (X:=X) out c h;by_cases hi:m<out.length;have hc:=o96 (X:=X) out[m] c;refine⟨m,decide (Ft out[m].cur c=0),aI (fc:=SG) aV7 rfl rfl (by simp[SG,bA,hl,hi,hc]),hm,fun ht=>⟨hi,eV5 (by simpa using ht)⟩⟩;exact⟨m,false,aI (fc:=SG) aV7 rfl rfl (by simp[SG,bA,hl,hi]),hm,fun ht=>by cases ht⟩
def Xu (c:List UInt8)(a:Int):∀(out:List Mo) (i:Nat) (hi:i<out.length),IntKind.i64.wrap (gM c (out.set i ⟨out[i].cur,IntKind.i64.wrap (out[i].amt+a)⟩))=IntKind.i64.wrap (gM c out+if out[i].cur=c then a else 0)
 |[],i,hi=>by simp at hi|m::out,0,_=>by simp only[List.set_cons_zero,gM,Tu];split;rw[CP];have:=(CP (a:=IntKind.i64.wrap (m.amt+a)) (b:=m.amt+a)).1 (bC _ (by rw[oV];omega));omega;simp|m::out,i+1,hi=>by have ih:=Xu c a out i (by simpa using hi);simp only[X8,gM,Tt];rw[CP] at ih⊢;omega
def dS6:Bk 97=⟨122,true,false,AD 122,0⟩:=rfl
def cO7 (c:List UInt8)(out:List Mo)(i:Nat)(m:Mo)(h0:m.amt=0):gM c (out.take i++m::out.drop i)=gM c out:=by rw[Lf,gM,h0];have:=Lf c (out.take i) (out.drop i);rw[DZ] at this;split<;>omega
set_option maxHeartbeats 4000000 in
def r56 (l:List bG)(k:Nat)(hk:k<l.length)(vF:k<=1000)(out:List Mo)(ho:out.length<=999):
  ∃out':List Mo,kE [3,8,9,10] (bI (O X) Mx [(3,.ow 122 (aB Mo.v out)),(8,.l (aB bG.v l)),(9,.i .i64 l.length),(10,.i .i64 k)])=some (.n,[(3,.ow 122 (aB Mo.v out')),(8,.l (aB bG.v l)),(9,.i .i64 l.length),(10,.i .i64 ((k+1:Nat):Int))])/\out'.length<=out.length+1/\
   ∀c,IntKind.i64.wrap (gM c out')=IntKind.i64.wrap (gM c out+if l[k].currency=c then l[k].amount else 0):=by
 have hw:=bC (k+1) (by omega);obtain⟨m,t,h95,hm,ht⟩:=cW3 (X:=X) out l[k].currency (by omega);cases t with
 |true=>
  obtain⟨hi,hc⟩:=ht rfl;refine⟨out.set m ⟨out[m].cur,IntKind.i64.wrap (out[m].amt+l[k].amount)⟩,?_,by simp,fun c=> ?_⟩;have yD:aB Mo.v (out.set m ⟨out[m].cur,IntKind.i64.wrap (out[m].amt+l[k].amount)⟩)=(aB Mo.v out).set m (.a [.s out[m].cur,.i .i64 (IntKind.i64.wrap (out[m].amt+l[k].amount))]):=by simp[aB,QH]
  rw[yD];clear hc;simp[Mx,hk,hw,h95,hi];rw[Xu c l[k].amount out m hi,hc]
 |false=>
  have sC:AD 122 (aB Mo.v out) [.i .i64 (m:Int),.ow 122 [.a [.s l[k].currency,.i .i64 0]]]=some (aB Mo.v (out.take m++⟨l[k].currency,0⟩::out.drop m)):=by
   unfold AD;have h1:(m:Int).toNat=m:=by omega
   simp only;rw[aY ⟨trivial,by omega,by rw[h1,uJ];exact hm,by rw[uJ];omega⟩,h1];simp[aB]
  have bT:(out.take m++⟨l[k].currency,0⟩::out.drop m).length=out.length+1:=by simp;omega
  have fQ:(out.take m++(⟨l[k].currency,0⟩:Mo)::out.drop m)[m]? =some ⟨l[k].currency,0⟩:=by
   have e:(out.take m).length=m:=by rw[gO];omega
   rw[D6 (by omega),e,Nat.sub_self];rfl
  have Cf:=fun c=>cO7 c out m ⟨l[k].currency,0⟩ rfl;generalize out.take m++⟨l[k].currency,0⟩::out.drop m=Z at sC bT fQ Cf;have hmZ:m<Z.length:=by omega
  have hZ:Z[m]=⟨l[k].currency,0⟩:=by rw[eI hmZ] at fQ;exact uR fQ
  refine⟨Z.set m ⟨Z[m].cur,IntKind.i64.wrap (Z[m].amt+l[k].amount)⟩,?_,by simp;omega,fun c=> ?_⟩;have yD:aB Mo.v (Z.set m ⟨Z[m].cur,IntKind.i64.wrap (Z[m].amt+l[k].amount)⟩)=(aB Mo.v Z).set m (.a [.s Z[m].cur,.i .i64 (IntKind.i64.wrap (Z[m].amt+l[k].amount))]):=by simp[aB,QH]
  rw[yD];clear hZ fQ Cf;simp[Mx,hk,hw,h95,dS6,sC,hmZ];rw[Xu c l[k].amount Z m hmZ,Cf c,hZ]
def Up (l:List bG)(h:l.length<=900):∃out:List Mo,O X 56 [.l (aB bG.v l)]=some (.ow 122 (aB Mo.v out))/\out.length<=l.length/\∀c,IntKind.i64.wrap (gM c out)=IntKind.i64.wrap (gL c l):=by
 have:=dW (o:=O X) (kin:=[3,8,9,10]) (c:=Mx) (fun k aA=>∃out:List Mo,aA=[(3,.ow 122 (aB Mo.v out)),(8,.l (aB bG.v l)),(9,.i .i64 l.length),(10,.i .i64 (k:Int))]/\out.length<=k/\k<=l.length/\∀c,IntKind.i64.wrap (gM c out)=IntKind.i64.wrap (gL c (l.take k))) l.length (fun r=>∃out:List Mo,r=(.e 0,[(3,.ow 122 (aB Mo.v out))])/\out.length<=l.length/\∀c,IntKind.i64.wrap (gM c out)=IntKind.i64.wrap (gL c l)) (fun k aA hI=>by obtain⟨out,rfl,_⟩:=hI;simp) (fun k aA hk hI=>by
  obtain⟨out,rfl,ho,vF,hs⟩:=hI;left;obtain⟨out',hr,zG,fR⟩:=r56 (X:=X) l k hk (by omega) out (by omega);refine⟨_,hr,out',rfl,by omega,by omega,fun c=> ?_⟩;rw[fR c,Ue c l hk];have:=hs c;rw[CP] at this⊢;omega) (fun aA hI=>by
  obtain⟨out,rfl,ho,_,hs⟩:=hI;refine⟨_,by simp[Mx],by simp,out,rfl,ho,fun c=> ?_⟩;rw[hs c,D0]) l.length 0 _ (by omega) ⟨[],rfl,by simp,by omega,fun c=>by simp[gM,gL]⟩
 obtain⟨r,hr,out,rfl,ho,hs⟩:=this;refine⟨out,aI (fc:=aG8) cQ7 rfl rfl ?_,ho,hs⟩;have mQ:bP (O X) [3,8,9,10] Mx [(3,.ow 122 []),(8,.l (aB bG.v l)),(9,.i .i64 l.length),(10,.i .i64 0)]=some (.e 0,[(3,.ow 122 (aB Mo.v out))]):=by simpa using hr
 simp[aG8,bA,mQ]
def l53 (s:List UInt8)(a m:Int)(h:s.length<=maxLen):∃r,bP (O X) [0,1,2,9,10] Mz [(0,.s s),(1,.i .u8 a),(2,.i .i64 m),(9,.i .i64 s.length),(10,.i .i64 0)]=some r/\(r=(.r,[(6,.b false)])\/r=(.e 0,[(0,.s s),(2,.i .i64 m)])):=by
 have:=Dt (o:=O X) (kin:=[0,1,2,9,10]) (c:=Mz) (fun i=>[(0,.s s),(1,.i .u8 a),(2,.i .i64 m),(9,.i .i64 s.length),(10,.i .i64 (i:Int))]) s.length (fun r=>r=(.r,[(6,.b false)])\/r=(.e 0,[(0,.s s),(2,.i .i64 m)])) (by simp) (fun i hi=>by
  have hw:=bC (i+1) (by unfold maxLen at h;omega);by_cases c1:(s[i].toNat:Int)<a;exact .inr ⟨(.r,[(6,.b false)]),by simp[Mz,hi,c1],by simp,.inl rfl⟩;by_cases c2:(126:Int)<(s[i].toNat:Int);exact .inr ⟨(.r,[(6,.b false)]),by simp[Mz,hi,c1,c2],by simp,.inl rfl⟩;exact .inl (by simp[Mz,hi,c1,c2,hw])) ⟨(.e 0,[(0,.s s),(2,.i .i64 m)]),by simp[Mz],by simp,.inr rfl⟩
 simpa using this
def t53 (s:List UInt8)(a m:Int)(h:s.length<=maxLen):∃t:Bool,O X 53 [.s s,.i .u8 a,.i .i64 m]=some (.b t)/\(t=true->(s.length:Int)<=m):=by obtain⟨r,hr,hQ⟩:=l53 (X:=X) s a m h;rcases hQ with rfl|rfl;exact⟨false,aI (fc:=SQ) aW2 rfl rfl (by simp[SQ,bA,hr]),fun h=>by cases h⟩;exact⟨decide ((s.length:Int)<=m),aI (fc:=SQ) aW2 rfl rfl (by simp[SQ,bA,hr]),fun h=>by simpa using h⟩
def t52 (s:List UInt8)(h:s.length<=maxLen):∃t:Bool,O X 52 [.s s]=some (.b t)/\(t=true->s.length<=48):=by obtain⟨t,ht,hp⟩:=t53 (X:=X) s 33 48 h;by_cases h0:s=[];subst h0;exact⟨false,aI (fc:=SR) aW3 rfl rfl (by simp[SR]),fun h=>by cases h⟩;exact⟨t,aI (fc:=SR) aW3 rfl rfl (by simp[SR,h0,ht]),fun h=>by have:=hp h;omega⟩
def ZN (n:Int):O X 54 [.i .i64 n]=some (.b (decide (0<=n)&&decide (n<=73048))):=by refine aI (fc:=aG9) cQ8 rfl rfl ?_;by_cases h:0<=n<;>simp[aG9,h]
def l55 (s:List UInt8)(h:s.length<=maxLen):∃r,bP (O X) [0,5,6] My [(0,.s s),(5,.i .i64 s.length),(6,.i .i64 0)]=some r/\(r=(.r,[(2,.b false)])\/r=(.e 0,[(0,.s s)])):=by
 have:=Dt (o:=O X) (kin:=[0,5,6]) (c:=My) (fun i=>[(0,.s s),(5,.i .i64 s.length),(6,.i .i64 (i:Int))]) s.length (fun r=>r=(.r,[(2,.b false)])\/r=(.e 0,[(0,.s s)])) (by simp) (fun i hi=>by
  have hw:=bC (i+1) (by unfold maxLen at h;omega);by_cases c1:(s[i].toNat:Int)<65;exact .inr ⟨(.r,[(2,.b false)]),by simp[My,hi,c1],by simp,.inl rfl⟩;by_cases c2:(90:Int)<(s[i].toNat:Int);exact .inr ⟨(.r,[(2,.b false)]),by simp[My,hi,c1,c2],by simp,.inl rfl⟩;exact .inl (by simp[My,hi,c1,c2,hw])) ⟨(.e 0,[(0,.s s)]),by simp[My],by simp,.inr rfl⟩
 simpa using this
def t55 (s:List UInt8)(h:s.length<=maxLen):∃t:Bool,O X 55 [.s s]=some (.b t)/\(t=true->s.length=3):=by obtain⟨r,hr,hQ⟩:=l55 (X:=X) s h;rcases hQ with rfl|rfl;exact⟨false,aI (fc:=SP) aW1 rfl rfl (by simp[SP,bA,hr]),fun h=>by cases h⟩;exact⟨decide ((s.length:Int)=3),aI (fc:=SP) aW1 rfl rfl (by simp[SP,bA,hr]),fun h=>(by have:(s.length:Int)=3:=Xc h;omega)⟩
def Px (x:bG):Prop:=1<=x.account/\x.amount≠0/\-1000000000000<=x.amount/\x.amount<=1000000000000/\x.currency.length=3
def eA0 (e:aW)(h:e.legs.length<=12)(hc:∀x∈e.legs,x.currency.length<=maxLen):∃r,bP (O X) [1,66,67,68] DU [(1,.bx e.cells),(66,.l (aB bG.v e.legs)),(67,.i .i64 e.legs.length),(68,.i .i64 0)]=some r/\((∃n:Int,r=(.r,[(2,.i .i64 n)])/\n≠0)\/(r=(.e 1,[(1,.bx e.cells)])/\∀x∈e.legs,Px x)):=by
 have:=dW (o:=O X) (kin:=[1,66,67,68]) (c:=DU) (fun i aA=>aA=[(1,.bx e.cells),(66,.l (aB bG.v e.legs)),(67,.i .i64 e.legs.length),(68,.i .i64 (i:Int))]/\∀(k:Nat) (hk:k<e.legs.length),k<i->Px e.legs[k]) e.legs.length (fun r=>(∃n:Int,r=(.r,[(2,.i .i64 n)])/\n≠0)\/(r=(.e 1,[(1,.bx e.cells)])/\∀x∈e.legs,Px x)) (fun i aA hI=>by obtain⟨rfl,_⟩:=hI;simp) (fun i aA hi hI=>by
  obtain⟨rfl,hz⟩:=hI;have hw:=bC (i+1) (by omega);obtain⟨t,ht,hp⟩:=t55 (X:=X) e.legs[i].currency (hc _ (gN hi));have bad:∀n:Int,n≠0->bI (O X) DU [(1,.bx e.cells),(66,.l (aB bG.v e.legs)),(67,.i .i64 e.legs.length),(68,.i .i64 (i:Int))]=some (.r,[(2,.i .i64 n)])->(∃aN,kE [1,66,67,68] (bI (O X) DU [(1,.bx e.cells),(66,.l (aB bG.v e.legs)),(67,.i .i64 e.legs.length),(68,.i .i64 (i:Int))])=some (.n,aN)/\(aN=[(1,.bx e.cells),(66,.l (aB bG.v e.legs)),(67,.i .i64 e.legs.length),(68,.i .i64 ((i+1:Nat):Int))]/\∀(k:Nat) (hk:k<e.legs.length),k<i+1->Px e.legs[k]))\/∃r,bI (O X) DU [(1,.bx e.cells),(66,.l (aB bG.v e.legs)),(67,.i .i64 e.legs.length),(68,.i .i64 (i:Int))]=some r/\r.1≠ .n/\((∃n:Int,r=(.r,[(2,.i .i64 n)])/\n≠0)\/(r=(.e 1,[(1,.bx e.cells)])/\∀x∈e.legs,Px x)):=fun n hn hx=> .inr ⟨_,hx,by simp,.inl ⟨n,rfl,hn⟩⟩;by_cases c1:e.legs[i].account<1;exact bad 1 (by decide) (by simp[DU,hi,c1]);by_cases c2:e.legs[i].amount=0;have c2':(e.legs[i].amount=0)=True:=yT c2;exact bad 1 (by decide) (by simp[DU,hi,c1,c2']);by_cases c3:e.legs[i].amount< -1000000000000;exact bad 1 (by decide) (by simp[DU,hi,c1,c2,c3]);by_cases c4:1000000000000<e.legs[i].amount;exact bad 1 (by decide) (by simp[DU,hi,c1,c2,c3,c4]);cases t with
  |false=>exact bad 14 (by decide) (by simp[DU,hi,c1,c2,c3,c4,ht])
  |true=>
   left;refine⟨_,by simp[DU,hi,c1,c2,c3,c4,ht,hw],rfl,fun k hk kY=> ?_⟩;by_cases ek:k=i;subst ek;exact⟨by omega,c2,by omega,by omega,hp rfl⟩;exact hz k hk (by omega)) (fun aA hI=>by
  obtain⟨rfl,hz⟩:=hI;refine⟨(.e 1,[(1,.bx e.cells)]),by simp[DU],by simp,.inr ⟨rfl,fun x hx=> ?_⟩⟩;obtain⟨k,hk,rfl⟩:=lH hx;exact hz k hk hk) e.legs.length 0 _ (by omega) ⟨rfl,fun k _ h=>absurd h (by omega)⟩
 simpa using this
def dZ9 (out:List Mo)(h:out.length<=1000):∃r,bP (O X) [97,98,99] P7 [(97,.ow 122 (aB Mo.v out)),(98,.i .i64 out.length),(99,.i .i64 0)]=some r/\(r=(.r,[(2,.i .i64 15)])\/(r=(.e 3,[])/\∀m∈out,m.amt=0)):=by
 have:=dW (o:=O X) (kin:=[97,98,99]) (c:=P7) (fun i aA=>aA=[(97,.ow 122 (aB Mo.v out)),(98,.i .i64 out.length),(99,.i .i64 (i:Int))]/\∀(k:Nat) (hk:k<out.length),k<i->out[k].amt=0) out.length (fun r=>r=(.r,[(2,.i .i64 15)])\/(r=(.e 3,[])/\∀m∈out,m.amt=0)) (fun i aA hI=>by obtain⟨rfl,_⟩:=hI;simp) (fun i aA hi hI=>by
  obtain⟨rfl,hz⟩:=hI;have hw:=bC (i+1) (by omega);by_cases h0:out[i].amt=0;left;have mH:(out[i].amt=0)=True:=yT h0;refine⟨_,by simp[P7,hi,hw,mH],rfl,fun k hk kY=> ?_⟩;by_cases e:k=i;subst e;exact h0;exact hz k hk (by omega);right;exact⟨(.r,[(2,.i .i64 15)]),by simp[P7,hi,h0],by simp,.inl rfl⟩) (fun aA hI=>by
  obtain⟨rfl,hz⟩:=hI;refine⟨(.e 3,[]),by simp[P7],by simp,.inr ⟨rfl,fun m hm=> ?_⟩⟩;obtain⟨k,hk,rfl⟩:=lH hm;exact hz k hk hk) out.length 0 _ (by omega) ⟨rfl,fun k _ h=>absurd h (by omega)⟩
 simpa using this
structure JI (e:aW):Prop where
 len:e.legs.length<=12
 flat:EU e.legs
 shp:Kl e
 legs:∀x∈e.legs,Px x
 bk:0<=e.booked/\e.booked<=73048
 auth:0<=e.auth/\e.auth<=3
structure XS (e:aW):Prop where
 key:e.key.length<=maxLen
 text:e.text.length<=maxLen
 cur:∀x∈e.legs,x.currency.length<=maxLen
set_option maxHeartbeats 8000000 in
def t24 (e:aW)(hf:XS e):∃n:Int,O X 24 [e.v]=some (.i .i64 n)/\(n=0->JI e):=by
 have:∃y,O X 24 [e.v]=some y/\IP (JI e) y:=by
  refine gZ (fc:=AV) cS4 rfl rfl ?_;obtain⟨t1,h1,k1⟩:=t52 (X:=X) e.key hf.key;obtain⟨t2,h2,k2⟩:=t53 (X:=X) e.text 32 64 hf.text;have h3:=ZN (X:=X) e.booked;have h4:=ZN (X:=X) e.value;have h5:=ZN (X:=X) e.period;have k3:(decide (0<=e.booked)&&decide (e.booked<=73048))=true->0<=e.booked/\e.booked<=73048:=fun h=>by simpa using h
  generalize (decide (0<=e.booked)&&decide (e.booked<=73048))=t3 at h3 k3;generalize (decide (0<=e.value)&&decide (e.value<=73048))=t4 at h4;generalize (decide (0<=e.period)&&decide (e.period<=73048))=t5 at h5;cases t1 with|false=>simp[AV,h1]|true=>
  cases t2 with|false=>simp[AV,h1,h2]|true=>
  cases t3 with|false=>simp[AV,h1,h2,h3]|true=>
  cases t4 with|false=>simp[AV,h1,h2,h3,h4]|true=>
  cases t5 with|false=>simp[AV,h1,h2,h3,h4,h5]|true=>
  by_cases c1:e.kind<1;simp[AV,h1,h2,h3,h4,h5,c1];by_cases c2:14<e.kind;simp[AV,h1,h2,h3,h4,h5,c1,c2];by_cases c3:e.auth<0;simp[AV,h1,h2,h3,h4,h5,c1,c2,c3];by_cases c4:3<e.auth;simp[AV,h1,h2,h3,h4,h5,c1,c2,c3,c4];by_cases c6:(e.legs.length:Int)<2;simp[AV,h1,h2,h3,h4,h5,c1,c2,c3,c4,c6];by_cases c8:(12:Int)<(e.legs.length:Int);simp[AV,h1,h2,h3,h4,h5,c1,c2,c3,c4,c6,c8];have kF:e.legs.length<=12:=by omega
  obtain⟨r1,iX,iI⟩:=eA0 (X:=X) e kF hf.cur;obtain⟨out,h56,hol,hs⟩:=Up (X:=X) e.legs (by omega);obtain⟨r2,kX,nP⟩:=dZ9 (X:=X) out (by omega);have fC:(∀m∈out,m.amt=0)->EU e.legs:=fun hz c=>by rw[<-hs,Xt c out hz];exact bC 0 (by omega)
  have hol':(aB Mo.v out).length=out.length:=uJ ..;rcases iI with⟨n,rfl,hn⟩|⟨rfl,Aw⟩;simp[AV,bA,h1,h2,h3,h4,h5,c1,c2,c3,c4,c6,c8,iX,hn];rcases nP with rfl|⟨rfl,hz⟩;simp[AV,bA,h1,h2,h3,h4,h5,c1,c2,c3,c4,c6,c8,iX,h56,kX];have hf':=fC hz;have hchk:JI e:=⟨kF,hf',⟨k1 rfl,by have:=k2 rfl;omega,fun x hx=>(Aw x hx).2.2.2.2⟩,Aw,k3 rfl,by omega⟩;simp[AV,bA,h1,h2,h3,h4,h5,c1,c2,c3,c4,c6,c8,iX,h56,kX,hchk]
 obtain⟨y,hy,n,rfl,hp⟩:=this;exact⟨n,hy,hp⟩
end Go.Proofs.YtdlpbedneamebaaGreatDoor
