/-
Plain laws and walks: part of the proof of the last text.
-/
import Derived.Test.YtdlpbedneamebaaGreatDoorTY
import Derived.Test.YtdlpbedneamebaaGreatDoorTree8
import Derived.Test.YtdlpbedneamebaaGreatDoorChart
set_option linter.all false
namespace Go.Proofs.YtdlpbedneamebaaGreatDoor
open Go.VM
variable {X:aU}
def t85 (b:cD)(e:aW)(h:qU b)(kF:e.legs.length<=1000):∃n:Int,O X 85 [b.v,e.v]=some (.i .i64 n)/\(n=0->∀x∈e.legs,ET b x.account):=by
 have hl:=dW (o:=O X) (kin:=[2,3,5]) (c:=Su) (fun i aA=>aA=[(2,.bx b.cells),(3,.bx e.cells),(5,.i .i64 (i:Int))]/\∀(k:Nat) (hk:k<e.legs.length),k<i->ET b e.legs[k].account) e.legs.length (fun r=>(∃n:Int,r=(.r,[(4,.i .i64 n)])/\n≠0)\/(r=(.e 0,[])/\∀x∈e.legs,ET b x.account)) (fun i aA hI=>by obtain⟨rfl,_⟩:=hI;simp) (fun i aA hi hI=>by
  obtain⟨rfl,hz⟩:=hI;have hw:=bC (i+1) (by omega);obtain⟨n,hn,hk⟩:=cX5 (X:=X) b e.legs[i] e.booked h;have sE:b.cells.length=22:=rfl;have hbv:b.v= .a b.cells:=rfl;rw[hbv] at hn;generalize b.cells=B at hn sE⊢;by_cases h0:n=0;subst h0;left;refine⟨[(2,.bx B),(3,.bx e.cells),(5,.i .i64 ((i+1:Nat):Int))],by simp[Su,hi,hw,hn,sE],rfl,fun k iY kY=> ?_⟩;by_cases e:k=i;subst e;exact hk rfl;exact hz k iY (by omega);right;exact⟨(.r,[(4,.i .i64 n)]),by simp[Su,hi,hn,h0,sE],by simp,.inl ⟨n,rfl,h0⟩⟩) (fun aA hI=>by
  obtain⟨rfl,hz⟩:=hI;refine⟨(.e 0,[]),by simp[Su],by simp,.inr ⟨rfl,fun m hm=> ?_⟩⟩;obtain⟨k,hk,rfl⟩:=lH hm;exact hz k hk hk) e.legs.length 0 [(2,.bx b.cells),(3,.bx e.cells),(5,.i .i64 ((0:Nat):Int))] (by omega) ⟨rfl,fun k _ h=>absurd h (by omega)⟩
 obtain⟨r,hl,hr⟩:=hl;simp only[fU] at hl;rcases hr with⟨n,rfl,hn⟩|⟨rfl,hk⟩;exact⟨n,aI (fc:=SJ) rfl rfl rfl (by simp[SJ,bA,hl]),fun e=>absurd e hn⟩;exact⟨0,aI (fc:=SJ) rfl rfl rfl (by simp[SJ,bA,hl]),fun _=>hk⟩
def cE0 (b:cD)(i:Nat)(e:aW):Prop:=Kw e/\e.id=(i:Int)+1/\∀x∈e.legs,ET b x.account
set_option maxHeartbeats 4000000 in
def aY5 (b:cD)(h:qU b)(Oz:∀e∈b.journal,e.legs.length<=1000):∃n:Int,O X 41 [b.v]=some (.i .i64 n)/\(n=0->∀(i:Nat) (hi:i<b.journal.length),cE0 b i b.journal[i]):=by
 obtain⟨m,hm,hmv⟩:=t84 (X:=X) b.journal h.jour;by_cases hm1:m= -1;subst hm1;have hv:=hmv rfl;have hl:=dW (o:=O X) (kin:=[1,3]) (c:=Iv) (fun i aA=>aA=[(1,.bx b.cells),(3,.i .i64 (i:Int))]/\∀(k:Nat) (hk:k<b.journal.length),k<i->∀x∈b.journal[k].legs,ET b x.account) b.journal.length (fun r=>r=(.r,[(2,.i .i64 25)])\/(r=(.e 0,[])/\∀(k:Nat) (hk:k<b.journal.length),∀x∈b.journal[k].legs,ET b x.account)) (fun i aA hI=>by obtain⟨rfl,_⟩:=hI;simp) (fun i aA hi hI=>by
  obtain⟨rfl,hz⟩:=hI;have hj:=h.jour;have hw:=bC (i+1) (by omega);obtain⟨n,hn,hk⟩:=t85 (X:=X) b b.journal[i] h (Oz _ (gN hi));by_cases h0:n=0;subst h0;left;refine⟨[(1,.bx b.cells),(3,.i .i64 ((i+1:Nat):Int))],by simp[Iv,hi,hw,hn],rfl,fun k iY kY=> ?_⟩;by_cases e:k=i;subst e;exact hk rfl;exact hz k iY (by omega);right;exact⟨(.r,[(2,.i .i64 25)]),by simp[Iv,hi,hn,h0],by simp,.inl rfl⟩) (fun aA hI=>by
  obtain⟨rfl,hz⟩:=hI;exact⟨(.e 0,[]),by simp[Iv],by simp,.inr ⟨rfl,fun k hk=>hz k hk hk⟩⟩) b.journal.length 0 [(1,.bx b.cells),(3,.i .i64 ((0:Nat):Int))] (by omega) ⟨rfl,fun k _ h=>absurd h (by omega)⟩
 obtain⟨r,hl,hr⟩:=hl;simp only[fU] at hl;rcases hr with rfl|⟨rfl,hk⟩;exact⟨25,aI (fc:=DH) rfl rfl rfl (by simp[DH,hm,bA,hl]),by simp⟩;exact⟨0,aI (fc:=DH) rfl rfl rfl (by simp[DH,hm,bA,hl]),fun _ i hi=>⟨(hv i hi).1,(hv i hi).2,hk i hi⟩⟩;exact⟨25,aI (fc:=DH) rfl rfl rfl (by simp[DH,hm,hm1]),by simp⟩
def aY6 (l:List iB)(hl:l.length<=1000)(hc:∀c∈l,c.weekend.length<=1000/\c.holidays.length<=1000):∃n:Int,O X 37 [.l (aB iB.v l)]=some (.i .i64 n):=by
 have hx:∃r,bP (O X) [0,3] Ka [(0,.l (aB iB.v l)),(3,.i .i64 (0:Nat))]=some r/\((∃n:Int,r=(.r,[(2,.i .i64 n)]))\/r=(.e 0,[])):=by
  refine lK (fun i=>[(0,.l (aB iB.v l)),(3,.i .i64 (i:Int))]) l.length _ (by simp) (fun i hi=> ?_) (by simp[Ka]);have hw:=bC (i+1) (by omega);have hx:=hc _ (gN hi);obtain⟨n,hn⟩:=YJ (X:=X) l[i] hx.1 hx.2;by_cases qP:n=0;subst qP;by_cases h0:i=0;subst h0;simp[-Prod.exists,Ka,hi,w1,hn];obtain⟨p,hp⟩:∃p,p+1=i:=⟨i - 1,by omega⟩;have eF:p<l.length:=by omega
  have mH:0<i:=by omega
  have cU:IntKind.i64.wrap ((i:Int) - 1)=(p:Int):=by rw[bC _ (by omega)];omega
  by_cases hbk:Op.bytesLess l[i].name l[p].name=true;simp[-Prod.exists,Ka,hi,hn,mH,cU,eF,hbk];by_cases hbe:l[i].name=l[p].name;simp only[iB.v,hbe] at hn;simp[-Prod.exists,Ka,hi,hw,hn,mH,cU,eF,hbk,hbe];simp[-Prod.exists,Ka,hi,hw,hn,mH,cU,eF,hbk,hbe];simp[-Prod.exists,Ka,hi,hn,qP]
 obtain⟨r,hx,hr⟩:=hx;simp only[fU] at hx;rcases hr with⟨n,rfl⟩|rfl;exact⟨n,aI (fc:=yI) rfl rfl rfl (by simp[yI,bA,hx])⟩;exact⟨0,aI (fc:=yI) rfl rfl rfl (by simp[yI,bA,hx])⟩
def Lw (b:cD):Prop:=∀p∈b.products,(∀f∈p.fees,f.okX)/\∀f∈p.rules,f.okX
structure T5 (b:cD):Prop where
 accs:b.accounts.length<=8
 jour:b.journal.length<=90
 chartL:b.chart.length<=40
 curs:b.currencies.length<=8
 prods:b.products.length<=12
 chart:K6 b.chart b.plan=0
 ents:∀(i:Nat) (hi:i<b.journal.length),cE0 b i b.journal[i]
structure N1 (b:cD):Prop where
 accs:b.accounts.length<=8
 jour:b.journal.length<=90
 chartL:b.chart.length<=40
 prods:b.products.length<=12
 cals:b.calendars.length<=4
 curs:b.currencies.length<=8
 cal:∀c∈b.calendars,c.weekend.length<=10/\c.holidays.length<=40
 legs:∀e∈b.journal,e.legs.length<=12
def eC0 (b:cD)(h:b.calendars.length<=1000):∃r,bP (O X) [1,3] NB [(1,.bx b.cells),(3,.i .i64 0)]=some r/\(r=(.r,[(2,.b false)])\/(r=(.e 0,[(1,.bx b.cells)])/\∀c∈b.calendars,c.weekend.length<=10/\c.holidays.length<=40)):=by
 have:=dW (o:=O X) (kin:=[1,3]) (c:=NB) (fun i aA=>aA=[(1,.bx b.cells),(3,.i .i64 (i:Int))]/\∀(k:Nat) (hk:k<b.calendars.length),k<i->b.calendars[k].weekend.length<=10/\b.calendars[k].holidays.length<=40) b.calendars.length (fun r=>r=(.r,[(2,.b false)])\/(r=(.e 0,[(1,.bx b.cells)])/\∀c∈b.calendars,c.weekend.length<=10/\c.holidays.length<=40)) (fun i aA hI=>by obtain⟨rfl,_⟩:=hI;simp) (fun i aA hi hI=>by
  obtain⟨rfl,hz⟩:=hI;have hw:=bC (i+1) (by omega);by_cases h1:(40:Int)<(b.calendars[i].holidays.length:Int);right;exact⟨(.r,[(2,.b false)]),by simp[NB,hi,h1],by simp,.inl rfl⟩;by_cases h2:(10:Int)<(b.calendars[i].weekend.length:Int);right;exact⟨(.r,[(2,.b false)]),by simp[NB,hi,h1,h2],by simp,.inl rfl⟩;left;refine⟨[(1,.bx b.cells),(3,.i .i64 ((i+1:Nat):Int))],by simp[NB,hi,h1,h2,hw],rfl,fun k hk kY=> ?_⟩;by_cases e:k=i;subst e;omega;exact hz k hk (by omega)) (fun aA hI=>by
  obtain⟨rfl,hz⟩:=hI;refine⟨(.e 0,[(1,.bx b.cells)]),by simp[NB],by simp,.inr ⟨rfl,fun c hc=> ?_⟩⟩;obtain⟨k,hk,rfl⟩:=lH hc;exact hz k hk hk) b.calendars.length 0 [(1,.bx b.cells),(3,.i .i64 ((0:Nat):Int))] (by omega) ⟨rfl,fun k _ h=>absurd h (by omega)⟩
 simpa using this
def eB9 (b:cD)(h:b.journal.length<=1000):∃r,bP (O X) [1,4] Pl [(1,.bx b.cells),(4,.i .i64 0)]=some r/\(r=(.r,[(2,.b false)])\/(r=(.e 2,[])/\∀e∈b.journal,e.legs.length<=12)):=by
 have:=dW (o:=O X) (kin:=[1,4]) (c:=Pl) (fun i aA=>aA=[(1,.bx b.cells),(4,.i .i64 (i:Int))]/\∀(k:Nat) (hk:k<b.journal.length),k<i->b.journal[k].legs.length<=12) b.journal.length (fun r=>r=(.r,[(2,.b false)])\/(r=(.e 2,[])/\∀e∈b.journal,e.legs.length<=12)) (fun i aA hI=>by obtain⟨rfl,_⟩:=hI;simp) (fun i aA hi hI=>by
  obtain⟨rfl,hz⟩:=hI;have hw:=bC (i+1) (by omega);by_cases h1:(12:Int)<(b.journal[i].legs.length:Int);right;exact⟨(.r,[(2,.b false)]),by simp[Pl,hi,h1],by simp,.inl rfl⟩;left;refine⟨[(1,.bx b.cells),(4,.i .i64 ((i+1:Nat):Int))],by simp[Pl,hi,h1,hw],rfl,fun k hk kY=> ?_⟩;by_cases e:k=i;subst e;omega;exact hz k hk (by omega)) (fun aA hI=>by
  obtain⟨rfl,hz⟩:=hI;refine⟨(.e 2,[]),by simp[Pl],by simp,.inr ⟨rfl,fun c hc=> ?_⟩⟩;obtain⟨k,hk,rfl⟩:=lH hc;exact hz k hk hk) b.journal.length 0 [(1,.bx b.cells),(4,.i .i64 ((0:Nat):Int))] (by omega) ⟨rfl,fun k _ h=>absurd h (by omega)⟩
 simpa using this
set_option maxHeartbeats 8000000 in
def aY9 (b:cD):∃t:Bool,O X 15 [b.v]=some (.b t)/\(t=true->N1 b):=by
 have:∃y,O X 15 [b.v]=some y/\BP (N1 b) y:=by refine gZ (fc:=uL) rfl rfl rfl ?_;by_cases c1:(8:Int)<(b.accounts.length:Int);simp[uL,c1];by_cases c2:(90:Int)<(b.journal.length:Int);simp[uL,c1,c2];by_cases c3:(40:Int)<(b.chart.length:Int);simp[uL,c1,c2,c3];by_cases c4:(12:Int)<(b.products.length:Int);simp[uL,c1,c2,c3,c4];by_cases c5:(4:Int)<(b.calendars.length:Int);simp[uL,c1,c2,c3,c4,c5];by_cases c6:(20:Int)<(b.holds.length:Int);simp[uL,c1,c2,c3,c4,c5,c6];by_cases c7:(20:Int)<(b.blocks.length:Int);simp[uL,c1,c2,c3,c4,c5,c6,c7];by_cases c8:(8:Int)<(b.currencies.length:Int);simp[uL,c1,c2,c3,c4,c5,c6,c7,c8];obtain⟨r1,h1,q1⟩:=eC0 (X:=X) b (by omega);obtain⟨r2,h2,q2⟩:=eB9 (X:=X) b (by omega);rcases q1 with rfl|⟨rfl,q1⟩;simp[uL,c1,c2,c3,c4,c5,c6,c7,c8,bA,h1];rcases q2 with rfl|⟨rfl,q2⟩;simp[uL,c1,c2,c3,c4,c5,c6,c7,c8,bA,h1,h2];have hF:N1 b:=⟨by omega,by omega,by omega,by omega,by omega,by omega,q1,q2⟩;simp[uL,c1,c2,c3,c4,c5,c6,c7,c8,bA,h1,h2,hF]
 obtain⟨y,h,t,rfl,hp⟩:=this;exact⟨t,h,hp⟩
end Go.Proofs.YtdlpbedneamebaaGreatDoor
