/-
Plain laws and walks: part of the proof of the last text.
-/
import Derived.Test.YtdlpbedneamebaaGreatDoorTGB
import Derived.Test.YtdlpbedneamebaaGreatDoorTY
set_option linter.all false
namespace Go.Proofs.YtdlpbedneamebaaGreatDoor
open Go.VM
variable {X:aU}
set_option maxHeartbeats 4000000 in
def YK (l:List dO)(s:List UInt8)(d:Int)(h:l.length<=1000):∃(p:dO) (u:Bool),O X 114 [.l (aB dO.v l),.s s,.i .i64 d]=some (.t [p.v,.b u])/\(u=true->p∈l):=by
 have hl:∃r,bP (O X) [0,1,2,6,8,11,12,13] HM [(0,.l (aB dO.v l)),(1,.s s),(2,.i .i64 d),(6,.bx p0.cells),(8,.i .i64 (-1)),(11,.l (aB dO.v l)),(12,.i .i64 l.length),(13,.i .i64 ((0:Nat):Int))]=some r/\(∃a:Int,r=(.e 0,[(0,.l (aB dO.v l)),(6,.bx p0.cells),(8,.i .i64 a)])/\(a= -1\/∃k:Nat,a=k/\k<l.length)):=by refine dW (fun i aA=>∃a:Int,aA=[(0,.l (aB dO.v l)),(1,.s s),(2,.i .i64 d),(6,.bx p0.cells),(8,.i .i64 a),(11,.l (aB dO.v l)),(12,.i .i64 l.length),(13,.i .i64 (i:Int))]/\(a= -1\/∃k:Nat,a=k/\k<l.length)) l.length _ (fun i aA hI=> ?_) (fun i aA hi hI=> ?_) (fun aA hI=> ?_) l.length 0 _ (by omega) ⟨-1,rfl,.inl rfl⟩;obtain⟨a,rfl,_⟩:=hI;simp;obtain⟨a,rfl,ha⟩:=hI;left;have hw:=bC (i+1) (by omega);have fin:∀a':Int,(a'= -1\/∃k:Nat,a'=k/\k<l.length)->kE [0,1,2,6,8,11,12,13] (bI (O X) HM [(0,.l (aB dO.v l)),(1,.s s),(2,.i .i64 d),(6,.bx p0.cells),(8,.i .i64 a),(11,.l (aB dO.v l)),(12,.i .i64 l.length),(13,.i .i64 (i:Int))])=some (.n,[(0,.l (aB dO.v l)),(1,.s s),(2,.i .i64 d),(6,.bx p0.cells),(8,.i .i64 a'),(11,.l (aB dO.v l)),(12,.i .i64 l.length),(13,.i .i64 ((i+1:Nat):Int))])->∃aN,kE [0,1,2,6,8,11,12,13] (bI (O X) HM [(0,.l (aB dO.v l)),(1,.s s),(2,.i .i64 d),(6,.bx p0.cells),(8,.i .i64 a),(11,.l (aB dO.v l)),(12,.i .i64 l.length),(13,.i .i64 (i:Int))])=some (.n,aN)/\∃a:Int,aN=[(0,.l (aB dO.v l)),(1,.s s),(2,.i .i64 d),(6,.bx p0.cells),(8,.i .i64 a),(11,.l (aB dO.v l)),(12,.i .i64 l.length),(13,.i .i64 ((i+1:Nat):Int))]/\(a= -1\/∃k:Nat,a=k/\k<l.length):=fun a' oQ hx=>⟨_,hx,a',rfl,oQ⟩;by_cases h1:l[i].name=s;have jI:(l[i].name=s)=True:=yT h1;by_cases h2:l[i].from'<=d;rcases ha with rfl|⟨k,rfl,hk⟩;exact fin i (.inr ⟨i,rfl,hi⟩) (by simp[HM,hi,hw,jI,h2]);by_cases h3:l[k].from'<l[i].from';exact fin i (.inr ⟨i,rfl,hi⟩) (by simp[HM,hi,hk,hw,jI,h2,h3]);exact fin k (.inr ⟨k,rfl,hk⟩) (by simp[HM,hi,hk,hw,jI,h2,h3]);exact fin a ha (by simp[HM,hi,hw,jI,h2]);exact fin a ha (by simp[HM,hi,hw,h1]);obtain⟨a,rfl,ha⟩:=hI;exact⟨(.e 0,[(0,.l (aB dO.v l)),(6,.bx p0.cells),(8,.i .i64 a)]),by simp[HM],by simp,a,rfl,ha⟩
 obtain⟨_,hl,a,rfl,ha⟩:=hl;rcases ha with rfl|⟨k,rfl,hk⟩;refine⟨p0,false,aI (fc:=Sl) aX8 rfl rfl ?_,fun h=>by cases h⟩;simp[p0,dO.cells] at hl;simp[Sl,bA,hl,p0];refine⟨l[k],true,aI (fc:=Sl) aX8 rfl rfl ?_,fun _=>gN hk⟩;simp[p0,dO.cells] at hl;simp[Sl,bA,hl,hk]
def YG (b:cD)(id d:Int)(h:b.accounts.length<=1000):∃t:Bool,O X 63 [b.v,.i .i64 id,.i .i64 d]=some (.b t):=by
 obtain⟨a,t,ha,_⟩:=NJ b.accounts id;have h1:=Fg (X:=X) b id h;rw[ha] at h1
 suffices h:∃y,O X 63 [b.v,.i .i64 id,.i .i64 d]=some y/\isB y by obtain⟨y,hy,t,rfl⟩:=h;exact⟨t,hy⟩
 refine gZ (fc:=PW) cQ2 rfl rfl ?_;cases t with|false=>simp[PW,h1]|true=>by_cases c1:a.opened<=d;by_cases c2:a.closed=0;have c2':(a.closed=0)=True:=yT c2;simp[PW,h1,c1,c2'];simp[PW,h1,c1,c2];omega;simp[PW,h1,c1]
def cY1 (b:cD)(a:iN)(h:b.products.length<=1000):∃(c:List UInt8) (t:Bool),O X 100 [b.v,a.v]=some (.t [.s c,.b t]):=by obtain⟨p,u,hp,_⟩:=YK (X:=X) b.products a.product a.opened h;refine⟨p.currency,u,aI (fc:=aN9) cW0 rfl rfl ?_⟩;simp[aN9,hp]
def t69 (b:cD)(id d:Int)(h:b.accounts.length<=1000)(hp:b.products.length<=1000):∃(p:dO) (u:Bool),O X 69 [b.v,.i .i64 id,.i .i64 d]=some (.t [p.v,.b u])/\(u=true->p∈b.products):=by obtain⟨a,t,ha,_⟩:=NJ b.accounts id;have h1:=Fg (X:=X) b id h;rw[ha] at h1;cases t with|false=>exact⟨p0,false,aI (fc:=DD) OA rfl rfl (by simp[DD,h1,p0]),fun h=>by cases h⟩|true=>obtain⟨p,u,hq,hm⟩:=YK (X:=X) b.products a.product d hp;exact⟨p,u,aI (fc:=DD) OA rfl rfl (by simp[DD,h1,hq]),hm⟩
def dP5 (b b':cD)(hA:b'.accounts=b.accounts)(hP:b'.products=b.products)(id d:Int)(h:b.accounts.length<=1000)(hp:b.products.length<=1000):O X 69 [b'.v,.i .i64 id,.i .i64 d]=O X 69 [b.v,.i .i64 id,.i .i64 d]:=by obtain⟨a,t,ha,_⟩:=NJ b.accounts id;have h1:=Fg (X:=X) b id h;have h2:=Fg (X:=X) b' id (by rw[hA];exact h);rw[ha] at h1;rw[hA,ha] at h2;cases t with|false=>have e1:O X 69 [b.v,.i .i64 id,.i .i64 d]=some (.t [p0.v,.b false]):=aI (fc:=DD) OA rfl rfl (by simp[DD,h1,p0]);have e2:O X 69 [b'.v,.i .i64 id,.i .i64 d]=some (.t [p0.v,.b false]):=aI (fc:=DD) OA rfl rfl (by simp[DD,h2,p0]);rw[e1,e2]|true=>obtain⟨p,u,hq,_⟩:=YK (X:=X) b.products a.product d hp;have dE:=hq;rw[<-hP] at dE;have e1:O X 69 [b.v,.i .i64 id,.i .i64 d]=some (.t [p.v,.b u]):=aI (fc:=DD) OA rfl rfl (by simp[DD,h1,hq]);have e2:O X 69 [b'.v,.i .i64 id,.i .i64 d]=some (.t [p.v,.b u]):=aI (fc:=DD) OA rfl rfl (by simp[DD,h2,dE]);rw[e1,e2]
def o99 (g:Gl)(x:bG):O X 99 [g.v,.r x.cells]=some (.b (decide (g.parent=x.account))):=by refine aI (fc:=aF6) cP6 rfl rfl ?_;simp[aF6]
def cX4 (l:List Gl)(x:bG)(h:l.length<=1000):∃z:Int,O X 147 [.l (aB Gl.v l),.f (.func 99) [] [.r x.cells]]=some (.i .i64 z):=by
 have:∃r,bP (O X) [0,1,7,8] TO [(0,.l (aB Gl.v l)),(1,.f (.func 99) [] [.r x.cells]),(7,.i .i64 l.length),(8,.i .i64 ((0:Nat):Int))]=some r/\((∃z:Int,r=(.r,[(4,.i .i64 z)]))\/r=(.e 0,[])):=by refine Dt (fun i=>[(0,.l (aB Gl.v l)),(1,.f (.func 99) [] [.r x.cells]),(7,.i .i64 l.length),(8,.i .i64 (i:Int))]) l.length _ (by simp) (fun i hi=> ?_) ⟨(.e 0,[]),by simp[TO],by simp,.inr rfl⟩;have hw:=bC (i+1) (by omega);have hc:=o99 (X:=X) l[i] x;by_cases hp:l[i].parent=x.account;rw[yS hp] at hc;exact .inr ⟨(.r,[(4,.i .i64 (i:Int))]),by simp[TO,hi,hc],by simp,.inl ⟨i,rfl⟩⟩;rw[zT hp] at hc;exact .inl (by simp[TO,hi,hc,hw])
 obtain⟨r,hr,hQ⟩:=this;simp only[fU] at hr;rcases hQ with⟨z,rfl⟩|rfl;exact⟨z,aI (fc:=Sd) aX7 rfl rfl (by simp[Sd,bA,hr])⟩;exact⟨-1,aI (fc:=Sd) aX7 rfl rfl (by simp[Sd,bA,hr])⟩
def u98 (l:List Gl)(x:bG)(h:l.length<=1000):∃t:Bool,O X 98 [.l (aB Gl.v l),.f (.func 99) [] [.r x.cells]]=some (.b t):=by obtain⟨z,hz⟩:=cX4 (X:=X) l x h;exact⟨decide (0<=z),aI (fc:=aF7) cP7 rfl rfl (by simp[aF7,hz])⟩
set_option maxHeartbeats 8000000 in
def u59 (b:cD)(x:bG)(h:qU b):∃n:Int,O X 59 [b.v,x.v]=some (.i .i64 n):=by
 obtain⟨g,t,hg,_⟩:=bS3 (lP b.chart x.account);have h90:=Rr (X:=X) b.chart x.account h.chart;rw[hg] at h90;obtain⟨t2,h98⟩:=u98 (X:=X) b.chart x h.chart;obtain⟨c,u,h21⟩:∃(c:gR) (u:Bool),O X 21 [.l (CF b.currencies),.s x.currency]=some (.t [c.v,.b u]):=by have:=e21 (X:=X) b.currencies x.currency h.curs;cases hf:Ff b.currencies x.currency with|none=>rw[hf] at this;exact⟨c0,false,this⟩|some c=>rw[hf] at this;exact⟨c,true,this⟩
 suffices hh:∃y,O X 59 [b.v,x.v]=some y/\isI y by obtain⟨y,hy,n,rfl⟩:=hh;exact⟨n,hy⟩
 refine gZ (fc:=aG6) cQ5 rfl rfl ?_;cases t<;>cases t2<;>cases u<;>simp[aG6,h90,h98,h21]<;>exact⟨_,rfl⟩
def HO (b:cD)(id:Int):iN:=match mP b.accounts id with|some i=>(b.accounts[i]?).getD a0|none=>a0
def cD4 (b:cD)(id:Int):aV b.accounts (mP b.accounts id)= .t [(HO b id).v,.b (mP b.accounts id).isSome]:=by unfold HO;cases h:mP b.accounts id with|none=>rfl|some i=>obtain⟨hi,_⟩:=Lu h;simp[aV,hi]
set_option maxHeartbeats 8000000 in
def v60 (b:cD)(x:bG)(bk:Int)(h:qU b):∃n:Int,O X 60 [b.v,x.v,.i .i64 bk]=some (.i .i64 n)/\(n=0->(mP b.accounts x.account).isSome=true/\O X 100 [b.v,(HO b x.account).v]=some (.t [.s x.currency,.b true])):=by
 have p9:=Fg (X:=X) b x.account h.accs;rw[cD4] at p9;obtain⟨c,u,h21⟩:∃(c:gR) (u:Bool),O X 21 [.l (CF b.currencies),.s x.currency]=some (.t [c.v,.b u]):=by have:=e21 (X:=X) b.currencies x.currency h.curs;cases hf:Ff b.currencies x.currency with|none=>rw[hf] at this;exact⟨c0,false,this⟩|some c=>rw[hf] at this;exact⟨c,true,this⟩
 obtain⟨k,t,PD⟩:=cY1 (X:=X) b (HO b x.account) h.prods;obtain⟨q,BD⟩:=YG (X:=X) b x.account bk h.accs;have:∃y,O X 60 [b.v,x.v,.i .i64 bk]=some y/\IP ((mP b.accounts x.account).isSome=true/\O X 100 [b.v,(HO b x.account).v]=some (.t [.s x.currency,.b true])) y:=by
  refine gZ (fc:=Ma) cQ4 rfl rfl ?_;generalize HO b x.account=a at p9 PD⊢;generalize (mP b.accounts x.account).isSome=s at p9⊢;cases s with|false=>simp[Ma,p9]|true=>
  cases u with|false=>simp[Ma,p9,h21]|true=>
  cases t with|false=>simp[Ma,p9,h21,PD]|true=>
  by_cases hk:k=x.currency;subst hk;cases q<;>simp[Ma,p9,h21,PD,BD];simp[Ma,p9,h21,PD,hk]
 obtain⟨y,hy,n,rfl,hp⟩:=this;exact⟨n,hy,hp⟩
end Go.Proofs.YtdlpbedneamebaaGreatDoor
namespace Go.Proofs.YtdlpbedneamebaaGreatDoor
open Go.VM
variable {X:aU}
def NX (X:aU)(b:cD)(x:bG):Prop:=1000<=x.account->(mP b.accounts x.account).isSome=true/\O X 100 [b.v,(HO b x.account).v]=some (.t [.s x.currency,.b true])
set_option maxHeartbeats 8000000 in
def l26 (b:cD)(e:aW)(h:qU b)(hl:e.legs.length<=1000):∃r,bP (O X) [2,3,9,10,11] Kb [(2,.bx b.cells),(3,.bx e.cells),(9,.l (aB bG.v e.legs)),(10,.i .i64 e.legs.length),(11,.i .i64 0)]=some r/\((∃n:Int,r=(.r,[(4,.i .i64 n)])/\n≠0)\/(r=(.e 0,[])/\∀x∈e.legs,NX X b x)):=by
 have:=dW (o:=O X) (kin:=[2,3,9,10,11]) (c:=Kb) (fun i aA=>aA=[(2,.bx b.cells),(3,.bx e.cells),(9,.l (aB bG.v e.legs)),(10,.i .i64 e.legs.length),(11,.i .i64 (i:Int))]/\∀(k:Nat) (hk:k<e.legs.length),k<i->NX X b e.legs[k]) e.legs.length (fun r=>(∃n:Int,r=(.r,[(4,.i .i64 n)])/\n≠0)\/(r=(.e 0,[])/\∀x∈e.legs,NX X b x)) (fun i aA hI=>by obtain⟨rfl,_⟩:=hI;simp) (fun i aA hi hI=>by
  obtain⟨rfl,hz⟩:=hI;have hw:=bC (i+1) (by omega);obtain⟨n,h59⟩:=u59 (X:=X) b e.legs[i] h;obtain⟨m,h60,hm⟩:=v60 (X:=X) b e.legs[i] e.booked h;by_cases hc:e.legs[i].account<1000;by_cases h0:n=0;left;subst h0;refine⟨_,by simp[Kb,hi,hc,h59,hw],rfl,fun k hk kY=> ?_⟩;by_cases ek:k=i;subst ek;intro h1;omega;exact hz k hk (by omega);right;exact⟨(.r,[(4,.i .i64 n)]),by simp[Kb,hi,hc,h59,h0],by simp,.inl ⟨n,rfl,h0⟩⟩;by_cases h0:m=0;left;subst h0;refine⟨_,by simp[Kb,hi,hc,h60,hw],rfl,fun k hk kY=> ?_⟩;by_cases ek:k=i;subst ek;exact fun _=>hm rfl;exact hz k hk (by omega);right;exact⟨(.r,[(4,.i .i64 m)]),by simp[Kb,hi,hc,h60,h0],by simp,.inl ⟨m,rfl,h0⟩⟩) (fun aA hI=>by
  obtain⟨rfl,hz⟩:=hI;refine⟨(.e 0,[]),by simp[Kb],by simp,.inr ⟨rfl,fun x hx=> ?_⟩⟩;obtain⟨k,hk,rfl⟩:=lH hx;exact hz k hk hk) e.legs.length 0 _ (by omega) ⟨rfl,fun k _ h=>absurd h (by omega)⟩
 simpa using this
def u26 (b:cD)(e:aW)(h:qU b)(hl:e.legs.length<=1000):∃n:Int,O X 26 [b.v,e.v]=some (.i .i64 n)/\(n=0->∀x∈e.legs,NX X b x):=by obtain⟨r,hr,hQ⟩:=l26 (X:=X) b e h hl;rcases hQ with⟨n,rfl,hn⟩|⟨rfl,hz⟩;exact⟨n,aI (fc:=SZ) aX0 rfl rfl (by simp[SZ,bA,hr]),fun h=>absurd h hn⟩;exact⟨0,aI (fc:=SZ) aX0 rfl rfl (by simp[SZ,bA,hr]),fun _=>hz⟩
def o58 (e:aW)(k:List UInt8):O X 58 [e.v,.r [.s k]]=some (.b (decide (e.key=k))):=by refine aI (fc:=aG7) cQ6 rfl rfl ?_;simp[aG7]
def u57 (l:List aW)(k:List UInt8)(h:l.length<=1000):∃z:Int,O X 57 [.l (aB aW.v l),.f (.func 58) [] [.r [.s k]]]=some (.i .i64 z)/\(z= -1\/∃i:Nat,z=i/\i<l.length):=by
 have:∃r,bP (O X) [0,1,7,8] Sy [(0,.l (aB aW.v l)),(1,.f (.func 58) [] [.r [.s k]]),(7,.i .i64 l.length),(8,.i .i64 ((0:Nat):Int))]=some r/\((∃i:Nat,r=(.r,[(4,.i .i64 i)])/\i<l.length)\/r=(.e 0,[])):=by refine Dt (fun i=>[(0,.l (aB aW.v l)),(1,.f (.func 58) [] [.r [.s k]]),(7,.i .i64 l.length),(8,.i .i64 (i:Int))]) l.length _ (by simp) (fun i hi=> ?_) ⟨(.e 0,[]),by simp[Sy],by simp,.inr rfl⟩;have hw:=bC (i+1) (by omega);have hc:=o58 (X:=X) l[i] k;by_cases hp:l[i].key=k;rw[yS hp] at hc;exact .inr ⟨(.r,[(4,.i .i64 (i:Int))]),by simp[Sy,hi,hc],by simp,.inl ⟨i,rfl,hi⟩⟩;rw[zT hp] at hc;exact .inl (by simp[Sy,hi,hc,hw])
 obtain⟨r,hr,hQ⟩:=this;simp only[fU] at hr;rcases hQ with⟨i,rfl,hi⟩|rfl;exact⟨i,aI (fc:=SO) aW0 rfl rfl (by simp[SO,bA,hr]),.inr ⟨i,rfl,hi⟩⟩;exact⟨-1,aI (fc:=SO) aW0 rfl rfl (by simp[SO,bA,hr]),.inl rfl⟩
def Ru:aW:=⟨0,0,0,0,0,0,[],[],[],0⟩
def u25 (l:List aW)(k:List UInt8)(h:l.length<=1000):∃(x:aW) (t:Bool),O X 25 [.l (aB aW.v l),.s k]=some (.t [x.v,.b t]):=by obtain⟨z,hz,gC⟩:=u57 (X:=X) l k h;rcases gC with rfl|⟨i,rfl,hi⟩;exact⟨Ru,false,aI (fc:=Ip) Uk rfl rfl (by simp[Ip,hz,Ru])⟩;exact⟨l[i],true,aI (fc:=Ip) Uk rfl rfl (by simp[Ip,hz,hi])⟩
def u66 (l:List aW)(h:l.length<=1000):∃c d:Int,O X 66 [.l (aB aW.v l)]=some (.t [.i .u64 c,.i .i64 d]):=by
 cases hl:l.length with
 |zero=>obtain rfl:l=[]:=pL hl;exact⟨0,-1,aI (fc:=SN) aV9 rfl rfl (by simp[SN])⟩
 |succ n=>
  have hw:IntKind.i64.wrap ((l.length:Int) - 1)=(n:Int):=by rw[bC _ (by omega)];omega
  have hn:n<l.length:=by omega
  have h0:¬l.length=0:=by omega
  have h1:¬l=[]:=by rintro rfl;simp at hl
  exact⟨l[n].chain,l[n].booked,aI (fc:=SN) aV9 rfl rfl (by simp[SN,h1,hw,hn])⟩
structure ER (X:aU):Prop where
 clone:∀l:List bG,l.length<=1000->X 111 [.l (aB bG.v l)]=some (.ow 61 (aB bG.v l))
 itoa:∀n,bR n->∃s:List UInt8,X 203 [.i .i64 n]=some (.s s)/\s.length<=20
 pack:∀(l:List (List UInt8)) (m:Nat),l.length<=1000->m<=1000000->(∀s∈l,s.length<=m)->∃s:List UInt8,X 165 [.l (aB V.s l)]=some (.s s)/\s.length<=l.length*(m+30)
def dQ4 (h:ER X)(l:List bG)(hl:l.length<=1000):O X 111 [.l (aB bG.v l)]=some (.ow 61 (aB bG.v l)):=vJ rfl (h.clone l hl)
def dP9 (h:ER X)(n:Int)(hn:bR n):∃s:List UInt8,O X 203 [.i .i64 n]=some (.s s)/\s.length<=20:=by obtain⟨s,hs,hl⟩:=h.itoa n hn;exact⟨s,vJ rfl hs,hl⟩
def ZR (h:ER X)(l:List (List UInt8))(m:Nat)(hl:l.length<=1000)(hm:m<=1000000)(hs:∀s∈l,s.length<=m):∃s:List UInt8,O X 165 [.l (aB V.s l)]=some (.s s)/\s.length<=l.length*(m+30):=by obtain⟨s,h1,h2⟩:=h.pack l m hl hm hs;exact⟨s,vJ rfl h1,h2⟩
def ZQ (h:ER X)(n:Int)(hn:bR n):∃s:List UInt8,O X 166 [.i .i64 n]=some (.s s)/\s.length<=20:=by obtain⟨s,hs,hl⟩:=dP9 h n hn;exact⟨s,aI (fc:=aL5) cU5 rfl rfl (by simp[aL5,hs]),hl⟩
def dM7 (o:aU)(k k':IntKind)(a b:Int)(h:¬b<0):aS o (.bin .shr) [.i k a,.i k' b]=some (.i k (a.fdiv (2 ^ (min b.toNat k.bits)))):=by simp only[aS,lQ,aK h]
def cL5 (a:Int)(s:List UInt8)(h:s.length<=maxLen):∃c:Int,O X 163 [.i .u64 a,.s s]=some (.i .u64 c):=by
 have:∃r,bP (O X) [0,1,7,8] Wu [(0,.i .u64 a),(1,.s s),(7,.i .i64 s.length),(8,.i .i64 ((0:Nat):Int))]=some r/\∃c:Int,r=(.e 0,[(0,.i .u64 c)]):=by refine dW (fun i aA=>∃c:Int,aA=[(0,.i .u64 c),(1,.s s),(7,.i .i64 s.length),(8,.i .i64 (i:Int))]) s.length _ (fun i aA hI=> ?_) (fun i aA hi hI=> ?_) (fun aA hI=> ?_) s.length 0 _ (by omega) ⟨a,rfl⟩;obtain⟨c,rfl⟩:=hI;simp;obtain⟨c,rfl⟩:=hI;left;have hw:=bC (i+1) (by unfold maxLen at h;omega);exact⟨_,by simp[Wu,hi,hw];rfl,_,rfl⟩;obtain⟨c,rfl⟩:=hI;exact⟨(.e 0,[(0,.i .u64 c)]),by simp[Wu],by simp,c,rfl⟩
 obtain⟨r,hr,c,rfl⟩:=this;simp only[fU] at hr;exact⟨c,aI (fc:=aL7) cU7 rfl rfl (by simp[aL7,bA,hr])⟩
def cL4 (a n:Int):∃c:Int,O X 164 [.i .u64 a,.i .u64 n]=some (.i .u64 c):=by
 have:∃r,bP (O X) [0,1,6] Wt [(0,.i .u64 a),(1,.i .u64 n),(6,.i .i64 ((0:Nat):Int))]=some r/\∃c:Int,r=(.e 0,[(0,.i .u64 c)]):=by
  refine dW (fun i aA=>∃c:Int,aA=[(0,.i .u64 c),(1,.i .u64 n),(6,.i .i64 (i:Int))]) 8 _ (fun i aA hI=> ?_) (fun i aA hi hI=> ?_) (fun aA hI=> ?_) 8 0 _ (by omega) ⟨a,rfl⟩;obtain⟨c,rfl⟩:=hI;simp;obtain⟨c,rfl⟩:=hI;left;have hw:=bC ((i:Int)+1) (by omega);have hw8:=bC (8*(i:Int)) (by omega);have bE:(i:Int)<8:=by omega
  have hs:∀o:aU,aS o (.bin .shr) [.i .u64 n,.i .i64 (8*(i:Int))]=_:=fun o=>dM7 o .u64 .i64 n (8*(i:Int)) (by omega);exact⟨_,by simp[Wt,bE,hw,hw8,hs];rfl,_,rfl⟩;obtain⟨c,rfl⟩:=hI;exact⟨(.e 0,[(0,.i .u64 c)]),by simp[Wt],by simp,c,rfl⟩
 obtain⟨r,hr,c,rfl⟩:=this;simp only[fU] at hr;exact⟨c,aI (fc:=aL6) cU6 rfl rfl (by simp[aL6,bA,hr])⟩
def cM5 (a:Int)(s:List UInt8)(h:s.length<=maxLen):∃c:Int,O X 112 [.i .u64 a,.s s]=some (.i .u64 c):=by obtain⟨b,hb⟩:=cL4 (X:=X) 14695981039346656037 a;obtain⟨c,hc⟩:=cL5 (X:=X) b s h;exact⟨c,aI (fc:=aN3) cV6 rfl rfl (by simp[aN3,hb,hc])⟩
@[simp] def YP (l:List (List UInt8)):(aB V.s l).all (fun x=>x.cells.length==1)=true:=mU fun _=>rfl
@[simp] def fG7 (l:List (List UInt8)):(∀x∈aB V.s l,x.cells.length=1)=True:=qB fun _=>rfl
structure XQ (x:bG):Prop where
 acc:bR x.account
 amt:bR x.amount
 cur:x.currency.length<=100
set_option maxHeartbeats 8000000 in
def dI9 (hX:ER X)(e:aW)(k:Nat)(hk:k<e.legs.length)(hl:e.legs.length<=12)(h:XQ e.legs[k])(T:List (List UInt8))(hT:T.length<=12):
  ∃s:List UInt8,s.length<=500/\kE [1,3,4,10,11,12] (bI (O X) Po [(1,.bx e.cells),(3,.ow 9 (aB V.s T)),(4,.ow 9 []),(10,.l (aB bG.v e.legs)),(11,.i .i64 e.legs.length),(12,.i .i64 k)])=some (.n,[(1,.bx e.cells),(3,.ow 9 (aB V.s (T++[s]))),(4,.ow 9 []),(10,.l (aB bG.v e.legs)),(11,.i .i64 e.legs.length),(12,.i .i64 ((k+1:Nat):Int))]):=by
 have hw:=bC (k+1) (by omega);obtain⟨s1,h1,l1⟩:=ZQ hX e.legs[k].account h.acc;obtain⟨s2,h2,l2⟩:=ZQ hX e.legs[k].amount h.amt;have h3:=h.cur;obtain⟨s,h4,l4⟩:=ZR hX [s1,s2,e.legs[k].currency] 100 (by simp) (by omega) (fun s hs=>by
  simp only[eP,xG,xH] at hs;rcases hs with rfl|rfl|rfl<;>omega)
 have e1:aB V.s (T++[s])=aB V.s T++[.s s]:=by simp[aB]
 have EK:O X 165 [.l [.s s1,.s s2,.s e.legs[k].currency]]=some (.s s):=h4;have l5:s.length<=390:=by simpa using l4
 refine⟨s,fG l5 (by decide),?_⟩;rw[e1];have hTl:(aB V.s T).length<=12:=by rw[uJ];exact hT
 have hb:((aB V.s T).length+1)*16<=140737488355328:=by omega
 have hTa:(aB V.s T).all (fun x=>x.cells.length==1)=true:=YP T;generalize aB V.s T=U at hb hTa⊢;simp(config := { maxSteps := 4000000 }) [Po,hk,hw,h1,h2,EK,hb]
def eC9 (hX:ER X)(e:aW)(hl:e.legs.length<=12)(h:∀x∈e.legs,XQ x):∃T:List (List UInt8),T.length<=12/\(∀s∈T,s.length<=500)/\bP (O X) [1,3,4,10,11,12] Po [(1,.bx e.cells),(3,.ow 9 []),(4,.ow 9 []),(10,.l (aB bG.v e.legs)),(11,.i .i64 e.legs.length),(12,.i .i64 0)]=some (.e 0,[(1,.bx e.cells),(3,.ow 9 (aB V.s T)),(4,.ow 9 [])]):=by
 have:=dW (o:=O X) (kin:=[1,3,4,10,11,12]) (c:=Po) (fun k aA=>∃T:List (List UInt8),aA=[(1,.bx e.cells),(3,.ow 9 (aB V.s T)),(4,.ow 9 []),(10,.l (aB bG.v e.legs)),(11,.i .i64 e.legs.length),(12,.i .i64 (k:Int))]/\T.length=k/\k<=e.legs.length/\∀s∈T,s.length<=500) e.legs.length (fun r=>∃T:List (List UInt8),r=(.e 0,[(1,.bx e.cells),(3,.ow 9 (aB V.s T)),(4,.ow 9 [])])/\T.length<=12/\∀s∈T,s.length<=500) (fun k aA hI=>by obtain⟨T,rfl,_⟩:=hI;simp) (fun k aA hk hI=>by
  obtain⟨T,rfl,hT,vF,hs⟩:=hI;left;obtain⟨s,hs5,hr⟩:=dI9 hX e k hk hl (h _ (gN hk)) T (by omega);refine⟨_,hr,T++[s],rfl,by simp[hT],hk,fun x hx=> ?_⟩;rcases iC.1 hx with hx|hx;exact hs x hx;rw[uQ.1 hx];exact hs5) (fun aA hI=>by
  obtain⟨T,rfl,hT,_,hs⟩:=hI;exact⟨(.e 0,[(1,.bx e.cells),(3,.ow 9 (aB V.s T)),(4,.ow 9 [])]),by simp[Po],by simp,T,rfl,by omega,hs⟩) e.legs.length 0 _ (by omega) ⟨[],rfl,rfl,by omega,fun s hs=>by cases hs⟩
 obtain⟨r,hr,T,rfl,hT,hs⟩:=this;exact⟨T,hT,hs,by simpa using hr⟩
set_option maxHeartbeats 4000000 in
def eC8 (hX:ER X)(e:aW)(D:List V)(n0 n1 n2 n3 n4 n5:Int)(h0:bR n0)(h1:bR n1)(h2:bR n2)(h3:bR n3)(h4:bR n4)(h5:bR n5):∃F:List (List UInt8),F.length=6/\(∀s∈F,s.length<=20)/\bP (O X) [1,3,4,42,43] TU [(1,.bx e.cells),(3,.ow 9 D),(4,.ow 9 []),(42,.a [.i .i64 n0,.i .i64 n1,.i .i64 n2,.i .i64 n3,.i .i64 n4,.i .i64 n5]),(43,.i .i64 0)]=some (.e 2,[(1,.bx e.cells),(3,.ow 9 D),(4,.ow 9 (aB V.s F))]):=by
 have:=dW (o:=O X) (kin:=[1,3,4,42,43]) (c:=TU) (fun k aA=>∃F:List (List UInt8),aA=[(1,.bx e.cells),(3,.ow 9 D),(4,.ow 9 (aB V.s F)),(42,.a [.i .i64 n0,.i .i64 n1,.i .i64 n2,.i .i64 n3,.i .i64 n4,.i .i64 n5]),(43,.i .i64 (k:Int))]/\F.length=k/\∀s∈F,s.length<=20) 6 (fun r=>∃F:List (List UInt8),r=(.e 2,[(1,.bx e.cells),(3,.ow 9 D),(4,.ow 9 (aB V.s F))])/\F.length=6/\∀s∈F,s.length<=20) (fun k aA hI=>by obtain⟨F,rfl,_⟩:=hI;simp) (fun k aA hk hI=>by
  obtain⟨F,rfl,hF,hs⟩:=hI;left;have hw:=bC ((k:Int)+1) (by omega);have hFl:(aB V.s F).length<=6:=by rw[uJ];omega
  have hb:((aB V.s F).length+1)*16<=140737488355328:=by omega
  have hFa:(aB V.s F).all (fun x=>x.cells.length==1)=true:=YP F;obtain⟨n,hn,sC⟩:∃n:Int,bR n/\([.i .i64 n0,.i .i64 n1,.i .i64 n2,.i .i64 n3,.i .i64 n4,.i .i64 n5]:List V)[k]? =some (.i .i64 n):=by
   match k,hk with|0,_=>exact⟨n0,h0,rfl⟩|1,_=>exact⟨n1,h1,rfl⟩|2,_=>exact⟨n2,h2,rfl⟩|3,_=>exact⟨n3,h3,rfl⟩|4,_=>exact⟨n4,h4,rfl⟩|5,_=>exact⟨n5,h5,rfl⟩
  obtain⟨s,h6,l6⟩:=ZQ hX n hn;have haix:∀o:aU,aS o (.aix 6 1 false) [.a [.i .i64 n0,.i .i64 n1,.i .i64 n2,.i .i64 n3,.i .i64 n4,.i .i64 n5],.i .i64 (k:Int)]=some (.i .i64 n):=fun o=>by
   match k,hk,sC with|0,_,h=>cases h;rfl|1,_,h=>cases h;rfl|2,_,h=>cases h;rfl|3,_,h=>cases h;rfl|4,_,h=>cases h;rfl|5,_,h=>cases h;rfl
  have bE:(k:Int)<6:=by omega
  have e1:aB V.s (F++[s])=aB V.s F++[.s s]:=by simp[aB]
  refine⟨[(1,.bx e.cells),(3,.ow 9 D),(4,.ow 9 (aB V.s (F++[s]))),(42,.a [.i .i64 n0,.i .i64 n1,.i .i64 n2,.i .i64 n3,.i .i64 n4,.i .i64 n5]),(43,.i .i64 ((k+1:Nat):Int))],?_,F++[s],rfl,by simp[hF],fun x hx=> ?_⟩;rw[e1];generalize aB V.s F=U at hb hFa⊢;simp(config := { maxSteps := 1000000 }) [TU,bE,hw,haix,h6,hb];rcases iC.1 hx with hx|hx;exact hs x hx;rw[uQ.1 hx];exact l6) (fun aA hI=>by
  obtain⟨F,rfl,hF,hs⟩:=hI;exact⟨(.e 2,[(1,.bx e.cells),(3,.ow 9 D),(4,.ow 9 (aB V.s F))]),by simp[TU],by simp,F,rfl,hF,hs⟩) 6 0 _ (by omega) ⟨[],rfl,rfl,fun s hs=>by cases hs⟩
 obtain⟨r,hr,F,rfl,hF,hs⟩:=this;exact⟨F,hF,hs,by simpa using hr⟩
structure cD8 (e:aW):Prop where
 id:bR e.id
 booked:bR e.booked
 value:bR e.value
 kind:bR e.kind
 auth:bR e.auth
 period:bR e.period
 legs:∀x∈e.legs,XQ x
set_option maxHeartbeats 8000000 in
def cM4 (hX:ER X)(e:aW)(hl:e.legs.length<=12)(hn:cD8 e)(hk:e.key.length<=48)(ht:e.text.length<=64):∃s:List UInt8,O X 113 [e.v]=some (.s s)/\s.length<=1000000:=by
 obtain⟨T,hT,hTs,h1⟩:=eC9 hX e hl hn.legs;obtain⟨F,hF,hFs,h2⟩:=eC8 hX e (aB V.s T) e.id e.booked e.value e.kind e.auth e.period hn.id hn.booked hn.value hn.kind hn.auth hn.period;obtain⟨s,h3,l3⟩:=ZR hX T 500 (by omega) (by omega) hTs;have l3':s.length<=12*530:=fG l3 (Nat.mul_le_mul hT (dD _));obtain⟨y,h4,l4⟩:=ZR hX (F++[e.key,e.text,s]) 7000 (by simp[hF]) (by omega) (fun x hx=>by
  rcases iC.1 hx with hx|hx;exact fG (hFs x hx) (by decide);simp only[eP,xG,xH] at hx;rcases hx with rfl|rfl|rfl;exact fG hk (by decide);exact fG ht (by decide);exact fG l3' (by decide))
 have l4':y.length<=1000000:=by
  have:(F++[e.key,e.text,s]).length=9:=by simp[hF]
  rw[this] at l4;omega
 refine⟨y,?_,l4'⟩;have e4:aB V.s (F++[e.key,e.text,s])=aB V.s F++[.s e.key,.s e.text,.s s]:=by simp[aB]
 rw[e4] at h4;have hb:((aB V.s F).length+3)*16<=140737488355328:=by rw[uJ,hF];decide
 have hFa:(aB V.s F).all (fun x=>x.cells.length==1)=true:=YP F;refine aI (fc:=aN2) cV5 rfl rfl ?_;generalize aB V.s F=U at hb hFa h2 h4;simp(config := { maxSteps := 4000000 }) [aN2,bA,h1,h2,h3,h4,hb]
def pC (e:aW)(n c:Int):aW:={e with id:=n,chain:=c}
set_option maxHeartbeats 8000000 in
def u67 (hX:ER X)(e:aW)(n ch:Int)(hl:e.legs.length<=12)(hn:cD8 e)(hk:e.key.length<=48)(ht:e.text.length<=64)(h0:0<=n/\n<=10000):∃c:Int,O X 67 [e.v,.i .i64 n,.i .u64 ch]=some (pC e (n+1) c).v:=by have hw:=bC (n+1) (by omega);have h1:=dQ4 hX e.legs (by omega);obtain⟨s,h2,hs⟩:=cM4 hX ({e with id:=n+1}:aW) hl ⟨⟨by simp only;omega,by simp only;omega⟩,hn.booked,hn.value,hn.kind,hn.auth,hn.period,hn.legs⟩ hk ht;obtain⟨c,h3⟩:=cM5 (X:=X) ch s (by unfold maxLen;omega);refine⟨c,aI (fc:=aG3) cQ0 rfl rfl ?_⟩;simp only[aW.v] at h2;simp[aG3,hw,h1,h2,h3,pC]
def dY7 {e:aW}(hc:JI e)(ha:∀x∈e.legs,bR x.account):∀x∈e.legs,XQ x:=fun x hx=>by obtain⟨_,_,h1,h2,h3⟩:=hc.legs x hx;exact⟨ha x hx,⟨by omega,by omega⟩,by omega⟩
structure O2 (e:aW):Prop where
 id:bR e.id
 booked:bR e.booked
 value:bR e.value
 kind:bR e.kind
 auth:bR e.auth
 period:bR e.period
 acc:∀x∈e.legs,bR x.account
set_option maxHeartbeats 16000000 in
def cI7 (e:aW)(x:aW)(ch d c:Int)(nD:O X 24 [e.v]=some (.i .i64 0))(mT:O X 25 [.l [],.s e.key]=some (.t [x.v,.b false]))(h66:O X 66 [.l []]=some (.t [.i .u64 ch,.i .i64 d]))(vH:O X 67 [e.v,.i .i64 0,.i .u64 ch]=some (pC e 1 c).v):
  O X 28 [.l [],e.v]=some (.t [.ow 59 [(pC e 1 c).v],.i .i64 0]):=by
 refine aI (fc:=Fl) Qi rfl rfl ?_;have hw:=bC 1 (by omega);generalize hS:(pC e 1 c).v=S at vH⊢;have zJ:S.cells.length=10:=by rw[<-hS];rfl
 have qR:S.cells.all V.cell=true:=by rw[<-hS];rfl
 obtain⟨cs,rfl⟩:∃cs,S= .a cs:=⟨_,hS.symm⟩;simp only[V.cells] at zJ qR;have hb:((1:Int)*112<=140737488355328)=True:=by simp
 have hS3:(∀y∈cs,V.cell y=true)=True:=yT fun y hy=>eM.1 qR y hy;clear hb hS;simp[Fl,nD,mT,h66,vH,hw,zJ,hS3]
set_option maxHeartbeats 16000000 in
def cI6 (j:List aW)(e:aW)(x:aW)(ch d c:Int)(hj:j.length<=1000)(nD:O X 24 [e.v]=some (.i .i64 0))(mT:O X 25 [.l (aB aW.v j),.s e.key]=some (.t [x.v,.b false]))(h66:O X 66 [.l (aB aW.v j)]=some (.t [.i .u64 ch,.i .i64 d]))(vH:O X 67 [e.v,.i .i64 j.length,.i .u64 ch]=some (pC e ((j.length:Int)+1) c).v)(c0:¬j=[])(c3:¬e.booked<d):
  O X 28 [.l (aB aW.v j),e.v]=some (.t [.ow 59 (aB aW.v j++[(pC e ((j.length:Int)+1) c).v]),.i .i64 0]):=by
 refine aI (fc:=Fl) Qi rfl rfl ?_;generalize hS:(pC e ((j.length:Int)+1) c).v=S at vH⊢;have zJ:S.cells.length=10:=by rw[<-hS];rfl
 have qR:S.cells.all V.cell=true:=by rw[<-hS];rfl
 obtain⟨cs,rfl⟩:∃cs,S= .a cs:=⟨_,hS.symm⟩;simp only[V.cells] at zJ qR;have hS3:(∀y∈cs,V.cell y=true)=True:=yT fun y hy=>eM.1 qR y hy;have c2:¬(4096:Int)<=(j.length:Int):=by omega
 obtain⟨J,hJ⟩:∃J:Int,J=(j.length:Int)+1:=⟨_,rfl⟩;have hw:IntKind.i64.wrap ((j.length:Int)+1)=J:=by rw[hJ];exact bC _ (by omega)
 have nT:0<=J:=by omega
 have EI:J*112<=140737488355328:=by omega
 have htn:J.toNat=j.length+1:=by omega
 have Br:List.take (j.length+1) (aB aW.v j)=aB aW.v j:=rM (by rw[uJ];omega);clear hS hJ;simp(config := { maxSteps := 4000000 }) [Fl,nD,mT,h66,vH,c2,c3,hw,nT,EI,htn,zJ,hS3,Br]
def u28 (hX:ER X)(j:List aW)(e:aW)(hj:j.length<=1000)(hf:XS e)(hn:O2 e):∃(js:List aW) (n:Int),O X 28 [.l (aB aW.v j),e.v]=some (.t [.ow 59 (aB aW.v js),.i .i64 n])/\((n≠0/\js=[])\/(n=0/\∃c:Int,js=j++[pC e ((j.length:Int)+1) c])):=by
 obtain⟨n,nD,hc⟩:=t24 (X:=X) e hf;by_cases qP:n=0;subst qP;have hc:=hc rfl;obtain⟨x,t,mT⟩:=u25 (X:=X) j e.key hj;cases t with
 |true=>exact⟨[],12,aI (fc:=Fl) Qi rfl rfl (by simp[Fl,nD,mT]),.inl ⟨by decide,rfl⟩⟩
 |false=>
  obtain⟨ch,d,h66⟩:=u66 (X:=X) j hj;by_cases c1:(0:Int)<(j.length:Int)/\e.booked<d;obtain⟨c1,c2⟩:=c1;have c1':0<j.length:=by omega
  have c0:¬j=[]:=by rintro rfl;simp at c1'
  exact⟨[],10,aI (fc:=Fl) Qi rfl rfl (by simp[Fl,nD,mT,h66,c0,c2]),.inl ⟨by decide,rfl⟩⟩;obtain⟨c,vH⟩:=u67 hX e j.length ch hc.len ⟨hn.id,hn.booked,hn.value,hn.kind,hn.auth,hn.period,dY7 hc hn.acc⟩ hc.shp.1 hc.shp.2.1 (by omega);refine⟨j++[pC e ((j.length:Int)+1) c],0,?_,.inr ⟨rfl,c,rfl⟩⟩;have e1:aB aW.v (j++[pC e ((j.length:Int)+1) c])=aB aW.v j++[(pC e ((j.length:Int)+1) c).v]:=by simp[aB]
  rw[e1];by_cases c0:j=[];subst c0;exact cI7 e x ch d c nD mT h66 vH;refine cI6 j e x ch d c hj nD mT h66 vH c0 fun h=>c1 ⟨?_,h⟩;cases j with|nil=>exact absurd rfl c0|cons a b=>simp only[fY];omega
 exact⟨[],n,aI (fc:=Fl) Qi rfl rfl (by simp[Fl,nD,qP]),.inl ⟨qP,rfl⟩⟩
end Go.Proofs.YtdlpbedneamebaaGreatDoor
