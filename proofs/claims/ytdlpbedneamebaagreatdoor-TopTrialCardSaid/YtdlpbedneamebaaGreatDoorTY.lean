/-
Plain laws and walks: part of the proof of the last text.
-/
import Derived.Test.YtdlpbedneamebaaGreatDoorTX
import Derived.Test.YtdlpbedneamebaaGreatDoorTN
set_option linter.all false
namespace Go.Proofs.YtdlpbedneamebaaGreatDoor
open Go.VM
variable {X:aU}
structure qU (b:cD):Prop where
 curs:b.currencies.length<=1000
 chart:b.chart.length<=1000
 accs:b.accounts.length<=1000
 prods:b.products.length<=1000
 jour:b.journal.length<=1000
def bS3 (q:Option Gl):∃(c:Gl) (t:Bool),gV q= .t [c.v,.b t]/\(t=true->q.isSome=true):=by cases q with|none=>exact⟨g0,false,rfl,by simp⟩|some c=>exact⟨c,true,rfl,by simp⟩
def eX7 (q:Option gR):∃(c:gR) (t:Bool),cV q= .t [c.v,.b t]:=by cases q with|none=>exact⟨c0,false,rfl⟩|some c=>exact⟨c,true,rfl⟩
def Kw (e:aW):Prop:=e.legs.length<=12/\EU e.legs/\Kl e
def bN8 (l:List aW)(e:aW)(h:l.length<=1000):∃r,bP (O X) [0,3,6] Ww [(0,.l (AQ l)),(3,.bx e.cells),(6,.i .i64 (0:Nat))]=some r/\(r=(.r,[(4,.i .i64 12)])\/r=(.e 0,[(0,.l (AQ l)),(3,.bx e.cells)])):=by refine lK (fun i=>[(0,.l (AQ l)),(3,.bx e.cells),(6,.i .i64 (i:Int))]) l.length _ (by simp) (fun i hi=> ?_) (by simp[Ww]);have hw:=bC (i+1) (by omega);by_cases hk:l[i].key=e.key<;>simp[-Prod.exists,Ww,hi,hw,hk]
set_option maxHeartbeats 4000000 in
def aZ2 (l:List aW)(e:aW)(h:l.length<=1000):∃n:Int,O X 135 [.l (AQ l),e.v]=some (.i .i64 n)/\(n=0->Kw e):=by
 obtain⟨n,hn,hp⟩:=t46 (X:=X) e;have:∃y,O X 135 [.l (AQ l),e.v]=some y/\IP (Kw e) y:=by
  refine gZ (fc:=DN) rfl rfl rfl ?_;by_cases h0:n=0;subst h0;have hc:Kw e:=hp rfl;obtain⟨r,hl,hr⟩:=bN8 (X:=X) l e h;simp only[fU] at hl;rcases hr with rfl|rfl;simp[DN,hn,bA,hl];by_cases h0:0<l.length;obtain⟨p,hp⟩:∃p,p+1=l.length:=⟨l.length - 1,by omega⟩;have eF:p<l.length:=by omega
  have cU:IntKind.i64.wrap ((l.length:Int) - 1)=(p:Int):=by rw[bC _ (by omega)];omega
  have h4:¬(4096:Int)<=(l.length:Int):=by omega
  by_cases hb:e.booked<l[p].booked;simp[DN,hn,bA,hl,h0,cU,eF,hb];simp[DN,hn,bA,hl,h0,cU,eF,hb,h4,hc];have h4:¬(4096:Int)<=(l.length:Int):=by omega
  simp[DN,hn,bA,hl,h0,h4,hc];simp[DN,hn,h0]
 obtain⟨y,h,n,rfl,hq⟩:=this;exact⟨n,h,hq⟩
set_option maxHeartbeats 4000000 in
def t84 (l:List aW)(h:l.length<=1000):∃n:Int,O X 84 [.l (AQ l)]=some (.i .i64 n)/\(n= -1->∀(i:Nat) (hi:i<l.length),Kw l[i]/\l[i].id=(i:Int)+1):=by
 have hx:=dW (o:=O X) (kin:=[0,3]) (c:=Fx) (fun i aA=>aA=[(0,.l (AQ l)),(3,.i .i64 (i:Int))]/\∀(k:Nat) (hk:k<l.length),k<i->Kw l[k]/\l[k].id=(k:Int)+1) l.length (fun r=>(∃n:Nat,r=(.r,[(2,.i .i64 (n:Int))]))\/(r=(.e 0,[])/\∀(k:Nat) (hk:k<l.length),Kw l[k]/\l[k].id=(k:Int)+1)) (fun i aA hI=>by obtain⟨rfl,_⟩:=hI;simp) (fun i aA hi hI=>by
  obtain⟨rfl,hz⟩:=hI;have hw:=bC (i+1) (by omega);have hs:=Uv aW.v 10 (fun _=>rfl) (O X) l i (by omega);have kW:(l.take i).length=i:=by rw[gO];omega
  obtain⟨n,hn,hc⟩:=aZ2 (X:=X) (l.take i) l[i] (by omega);by_cases h0:n=0;subst h0;have hch:=hc rfl;obtain⟨a,ha,hid,hal⟩:=aZ0 (X:=X) (l.take i) l[i] (by omega) hch.1 hch.2.2;rw[kW] at hid;obtain⟨t,ht,Cf⟩:=aZ1 (X:=X) a l[i] (by omega);cases t with|false=>right;exact⟨(.r,[(2,.i .i64 (i:Int))]),by simp[Fx,hi,hs,hn,ha,ht],by simp,.inl ⟨i,rfl⟩⟩|true=>left;refine⟨[(0,.l (AQ l)),(3,.i .i64 ((i+1:Nat):Int))],by simp[Fx,hi,hs,hn,ha,ht,hw],rfl,fun k hk kY=> ?_⟩;by_cases e:k=i;subst e;exact⟨hch,by rw[<-Cf rfl,hid]⟩;exact hz k hk (by omega)
  right;exact⟨(.r,[(2,.i .i64 (i:Int))]),by simp[Fx,hi,hs,hn,h0],by simp,.inl ⟨i,rfl⟩⟩) (fun aA hI=>by
  obtain⟨rfl,hz⟩:=hI;exact⟨(.e 0,[]),by simp[Fx],by simp,.inr ⟨rfl,fun k hk=>hz k hk hk⟩⟩) l.length 0 [(0,.l (AQ l)),(3,.i .i64 ((0:Nat):Int))] (by omega) ⟨rfl,fun k _ h=>absurd h (by omega)⟩
 obtain⟨r,hx,hr⟩:=hx;simp only[fU] at hx;rcases hr with⟨n,rfl⟩|⟨rfl,hz⟩;exact⟨n,aI (fc:=If) rfl rfl rfl (by simp[If,bA,hx]),fun e=>by omega⟩;exact⟨-1,aI (fc:=If) rfl rfl rfl (by simp[If,bA,hx]),fun _=>hz⟩
def cW8 (l:List Gl)(id:Int)(h:l.length<=1000):∃t,O X 179 [.l (kQ l),.i .i64 id]=some (.b t)/\(t=false->∀g∈l,g.parent≠id):=by
 have hx:=dW (o:=O X) (kin:=[0,1,5]) (c:=TL) (fun i aA=>aA=[(0,.l (kQ l)),(1,.i .i64 id),(5,.i .i64 (i:Int))]/\∀(k:Nat) (hk:k<l.length),k<i->l[k].parent≠id) l.length (fun r=>r=(.r,[(4,.b true)])\/(r=(.e 0,[])/\∀g∈l,g.parent≠id)) (fun i aA hI=>by obtain⟨rfl,_⟩:=hI;simp) (fun i aA hi hI=>by
  obtain⟨rfl,hz⟩:=hI;have hw:=bC (i+1) (by omega);by_cases h0:l[i].parent=id;right;exact⟨(.r,[(4,.b true)]),by simp[TL,hi,h0],by simp,.inl rfl⟩;left;refine⟨[(0,.l (kQ l)),(1,.i .i64 id),(5,.i .i64 ((i+1:Nat):Int))],by simp[TL,hi,h0,hw],rfl,fun k hk kY=> ?_⟩;by_cases e:k=i;subst e;exact h0;exact hz k hk (by omega)) (fun aA hI=>by
  obtain⟨rfl,hz⟩:=hI;refine⟨(.e 0,[]),by simp[TL],by simp,.inr ⟨rfl,fun g hg=> ?_⟩⟩;obtain⟨k,hk,rfl⟩:=lH hg;exact hz k hk hk) l.length 0 [(0,.l (kQ l)),(1,.i .i64 id),(5,.i .i64 ((0:Nat):Int))] (by omega) ⟨rfl,fun k _ h=>absurd h (by omega)⟩
 obtain⟨r,hx,hr⟩:=hx;simp only[fU] at hx;rcases hr with rfl|⟨rfl,hz⟩;exact⟨true,aI (fc:=Sa) rfl rfl rfl (by simp[Sa,bA,hx]),by simp⟩;exact⟨false,aI (fc:=Sa) rfl rfl rfl (by simp[Sa,bA,hx]),fun _=>hz⟩
def ET (b:cD)(id:Int):Prop:=((lP b.chart id).isSome=true/\∀g∈b.chart,g.parent≠id)\/(1000<=id/\(mP b.accounts id).isSome=true)
def NJ (l:List iN)(id:Int):∃(a:iN) (t:Bool),aV l (mP l id)= .t [a.v,.b t]/\(t=true->(mP l id).isSome=true):=by cases h:mP l id with|none=>exact⟨a0,false,rfl,by simp⟩|some i=>obtain⟨hi,_⟩:=Lu h;exact⟨l[i],true,by simp[aV,hi],by simp⟩
set_option maxHeartbeats 8000000 in
def cX5 (b:cD)(x:bG)(bk:Int)(h:qU b):∃n:Int,O X 138 [b.v,x.v,.i .i64 bk]=some (.i .i64 n)/\(n=0->ET b x.account):=by
 have jS:=aD0 (X:=X) b.currencies x.currency h.curs;obtain⟨c,t1,hc⟩:=eX7 (Ff b.currencies x.currency);rw[hc] at jS;have:∃y,O X 138 [b.v,x.v,.i .i64 bk]=some y/\IP (ET b x.account) y:=by
  refine gZ (fc:=HH) rfl rfl rfl ?_;by_cases bE:x.account<1000;have h77:=aC9 (X:=X) b.chart x.account h.chart;obtain⟨g,t2,hg,hk⟩:=bS3 (lP b.chart x.account);rw[hg] at h77;obtain⟨t3,h179,hp⟩:=cW8 (X:=X) b.chart x.account h.chart;cases t2 with|false=>simp(config := { maxSteps := 1000000 }) [HH,jS,bE,h77]|true=>cases t3 with|true=>simp(config := { maxSteps := 1000000 }) [HH,jS,bE,h77,h179]|false=>have mS:ET b x.account:= .inl ⟨hk rfl,hp rfl⟩;cases t1<;>simp(config := { maxSteps := 1000000 }) [HH,jS,bE,h77,h179,mS]
  have PB:=bV8 (X:=X) b x.account h.accs;obtain⟨a,t2,ha,hk⟩:=NJ b.accounts x.account;rw[ha] at PB;cases t2 with
  |false=>simp(config := { maxSteps := 1000000 }) [HH,jS,bE,PB]
  |true=>
   have mS:ET b x.account:= .inr ⟨by omega,hk rfl⟩;obtain⟨p,t3,h134⟩:=t63 (X:=X) b.products a.product a.opened h.prods;obtain⟨t4,h181,_⟩:=t70 (X:=X) b x.account bk h.accs;cases t1 with|false=>simp(config := { maxSteps := 1000000 }) [HH,jS,bE,PB,h134]|true=>
   cases t3 with|false=>simp(config := { maxSteps := 1000000 }) [HH,jS,bE,PB,h134]|true=>
   by_cases hcu:p.currency=x.currency;cases t4<;>simp(config := { maxSteps := 1000000 }) [HH,jS,bE,PB,h134,hcu,h181,mS];simp(config := { maxSteps := 1000000 }) [HH,jS,bE,PB,h134,hcu]
 obtain⟨y,h,n,rfl,hq⟩:=this;exact⟨n,h,hq⟩
end Go.Proofs.YtdlpbedneamebaaGreatDoor
