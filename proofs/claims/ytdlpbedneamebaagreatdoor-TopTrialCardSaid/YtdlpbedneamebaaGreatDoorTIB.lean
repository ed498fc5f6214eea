/-
Plain laws and walks: part of the proof of the last text.
-/
import Derived.Test.YtdlpbedneamebaaGreatDoorTHB
import Derived.Test.YtdlpbedneamebaaGreatDoorTS
set_option linter.all false
namespace Go.Proofs.YtdlpbedneamebaaGreatDoor
open Go.VM
variable {X:aU}
structure Kr (b:cD):Prop where
 accs:∀a∈b.accounts,0<=a.extra/\a.extra<=1000000000000
 prods:∀p∈b.products,0<=p.overdraft/\p.overdraft<=1000000000000
 holdL:b.holds.length<=64
 holds:∀h∈b.holds,0<=h.amount/\h.amount<=1000000000000
 blkL:b.blocks.length<=64
 blks:∀x∈b.blocks,0<=x.amount/\x.amount<=1000000000000
structure vN (X:aU):Prop extends ER X where
 of:∀(j:List aW) (id:Int),jok j=true->X 12 [.l (aB aW.v j),.i .i64 id]=some (.i .i64 (oN id j))
 denies:∀(x:cF) (n:Int),∃t:Bool,X 108 [x.v,.i .i64 n]=some (.b t)
 reserved:∀(l:List cF) (id d:Int),l.length<=64->(∀x∈l,0<=x.amount/\x.amount<=1000000000000)->∃s:Int,X 157 [.l (aB cF.v l),.i .i64 id,.i .i64 d]=some (.i .i64 s)/\0<=s/\s<=64000000000000
def Dq (h:vN X)(j:List aW)(id:Int)(hj:jok j=true):O X 12 [.l (aB aW.v j),.i .i64 id]=some (.i .i64 (oN id j)):=vJ rfl (h.of j id hj)
def dQ3 (h:vN X)(l:List cF)(id d:Int)(hl:l.length<=64)(hx:∀x∈l,0<=x.amount/\x.amount<=1000000000000):∃s:Int,O X 157 [.l (aB cF.v l),.i .i64 id,.i .i64 d]=some (.i .i64 s)/\0<=s/\s<=64000000000000:=by obtain⟨s,h1,h2⟩:=h.reserved l id d hl hx;exact⟨s,vJ rfl h1,h2⟩
def dQ5 (h:vN X)(x:cF)(n:Int):∃t:Bool,O X 108 [x.v,.i .i64 n]=some (.b t):=by obtain⟨t,ht⟩:=h.denies x n;exact⟨t,vJ rfl ht⟩
def fD2 {b:cD}{id:Int}(h:(mP b.accounts id).isSome=true):HO b id∈b.accounts:=by unfold HO;cases hp:mP b.accounts id with|none=>rw[hp] at h;cases h|some i=>obtain⟨hi,_⟩:=Lu hp;simp[hi]
set_option maxHeartbeats 4000000 in
def u30 (b:cD)(id d:Int)(h:qU b)(hm:Kr b):∃fl er:Int,O X 30 [b.v,.i .i64 id,.i .i64 d]=some (.t [.i .i64 fl,.i .i64 er])/\-2000000000000<=fl/\fl<=0/\(er=0->∃p∈b.products,O X 69 [b.v,.i .i64 id,.i .i64 d]=some (.t [p.v,.b true])):=by
 have p9:=Fg (X:=X) b id h.accs;rw[cD4] at p9;have As:=fD2 (b:=b) (id:=id);obtain⟨p,u,h69,hp⟩:=t69 (X:=X) b id d h.accs h.prods;generalize HO b id=a at p9 As;generalize (mP b.accounts id).isSome=s at p9 As;cases s with|false=>exact⟨0,11,aI (fc:=Ij) Uh rfl rfl (by simp[Ij,p9,h69]),by omega,by omega,fun h=>by omega⟩|true=>
 cases u with
 |false=>exact⟨0,11,aI (fc:=Ij) Uh rfl rfl (by simp[Ij,p9,h69]),by omega,by omega,fun h=>by omega⟩
 |true=>
  have h1:=hm.accs a (As rfl);have h2:=hm.prods p (hp rfl);have cU:IntKind.i64.wrap (p.overdraft+a.extra)=p.overdraft+a.extra:=bC _ (by omega);have eZ:IntKind.i64.wrap (0 - (p.overdraft+a.extra))= -(p.overdraft+a.extra):=by rw[bC _ (by omega)];omega
  have s8:IntKind.i64.wrap (-(p.overdraft+a.extra))= -(p.overdraft+a.extra):=bC _ (by omega);refine⟨-(p.overdraft+a.extra),0,aI (fc:=Ij) Uh rfl rfl ?_,by omega,by omega,fun _=>⟨p,hp rfl,h69⟩⟩;generalize hz:p.overdraft+a.extra=z at cU eZ s8;simp only[Int.zero_sub] at eZ;simp[Ij,p9,h69,hz,cU,eZ]
set_option maxHeartbeats 8000000 in
def dP6 (b b':cD)(hA:b'.accounts=b.accounts)(hP:b'.products=b.products)(id d:Int)(h:qU b)(h':b'.accounts.length<=1000):O X 30 [b'.v,.i .i64 id,.i .i64 d]=O X 30 [b.v,.i .i64 id,.i .i64 d]:=by
 have h1:=Fg (X:=X) b id h.accs;have h2:=Fg (X:=X) b' id h';have h3:=dP5 (X:=X) b b' hA hP id d h.accs h.prods;obtain⟨a,t,ha,_⟩:=NJ b.accounts id;rw[ha] at h1;rw[hA,ha] at h2;obtain⟨p,u,h69,_⟩:=t69 (X:=X) b id d h.accs h.prods;rw[h69] at h3;have key:∀c:cD,O X 62 [c.v,.i .i64 id]=some (.t [a.v,.b t])->O X 69 [c.v,.i .i64 id,.i .i64 d]=some (.t [p.v,.b u])->O X 30 [c.v,.i .i64 id,.i .i64 d]=some (if t=true then(if u=true then .t [.i .i64 (IntKind.i64.wrap (0 - IntKind.i64.wrap (p.overdraft+a.extra))),.i .i64 0] else .t [.i .i64 0,.i .i64 11]) else .t [.i .i64 0,.i .i64 11]):=by intro c k1 k2;refine aI (fc:=Ij) Uh rfl rfl ?_;cases t<;>cases u<;>simp[Ij,k1,k2]
 rw[key b h1 h69,key b' h2 h3]
def cL9 (l:List fS)(id d:Int)(hl:l.length<=64)(hx:∀x∈l,0<=x.amount/\x.amount<=1000000000000):∃s:Int,O X 156 [.l (aB fS.v l),.i .i64 id,.i .i64 d]=some (.i .i64 s)/\0<=s/\s<=64000000000000:=by
 have:∃r,bP (O X) [1,2,7,10,11,12] ND [(1,.i .i64 id),(2,.i .i64 d),(7,.i .i64 0),(10,.l (aB fS.v l)),(11,.i .i64 l.length),(12,.i .i64 ((0:Nat):Int))]=some r/\∃s:Int,r=(.e 0,[(7,.i .i64 s)])/\0<=s/\s<=64000000000000:=by refine dW (fun i aA=>∃s:Int,aA=[(1,.i .i64 id),(2,.i .i64 d),(7,.i .i64 s),(10,.l (aB fS.v l)),(11,.i .i64 l.length),(12,.i .i64 (i:Int))]/\0<=s/\s<=(i:Int)*1000000000000) l.length _ (fun i aA hI=> ?_) (fun i aA hi hI=> ?_) (fun aA hI=> ?_) l.length 0 _ (by omega) ⟨0,rfl,by omega,by omega⟩;obtain⟨s,rfl,_⟩:=hI;simp;obtain⟨s,rfl,h1,h2⟩:=hI;left;have hw:=bC (i+1) (by omega);have h3:=hx _ (gN hi);have hws:IntKind.i64.wrap (s+l[i].amount)=s+l[i].amount:=bC _ (by omega);by_cases c1:l[i].account=id;have c1':(l[i].account=id)=True:=yT c1;by_cases c2:l[i].from'<=d;by_cases c3:d<=l[i].to';exact⟨_,by simp[ND,hi,hw,c1',c2,c3,hws],s+l[i].amount,rfl,by omega,by omega⟩;exact⟨_,by simp[ND,hi,hw,c1',c2,c3],s,rfl,h1,by omega⟩;exact⟨_,by simp[ND,hi,hw,c1',c2],s,rfl,h1,by omega⟩;exact⟨_,by simp[ND,hi,hw,c1],s,rfl,h1,by omega⟩;obtain⟨s,rfl,h1,h2⟩:=hI;exact⟨(.e 0,[(7,.i .i64 s)]),by simp[ND],by simp,s,rfl,h1,by omega⟩
 obtain⟨r,hr,s,rfl,h1,h2⟩:=this;simp only[fU] at hr;exact⟨s,aI (fc:=aM1) cV1 rfl rfl (by simp[aM1,bA,hr]),h1,h2⟩
def cM9 (l:List cF)(id d:Int)(hl:l.length<=1000):∃l':List cF,O X 106 [.l (aB cF.v l),.i .i64 id,.i .i64 d]=some (.ow 156 (aB cF.v l'))/\l'.length<=l.length:=by
 have:∃r,bP (O X) [1,2,7,10,11,12] BR [(1,.i .i64 id),(2,.i .i64 d),(7,.ow 156 (aB cF.v [])),(10,.l (aB cF.v l)),(11,.i .i64 l.length),(12,.i .i64 ((0:Nat):Int))]=some r/\∃l':List cF,r=(.e 0,[(7,.ow 156 (aB cF.v l'))])/\l'.length<=l.length:=by
  refine dW (fun i aA=>∃l':List cF,aA=[(1,.i .i64 id),(2,.i .i64 d),(7,.ow 156 (aB cF.v l')),(10,.l (aB cF.v l)),(11,.i .i64 l.length),(12,.i .i64 (i:Int))]/\l'.length<=i) l.length _ (fun i aA hI=> ?_) (fun i aA hi hI=> ?_) (fun aA hI=> ?_) l.length 0 _ (by omega) ⟨[],rfl,by simp⟩;obtain⟨s,rfl,_⟩:=hI;simp;obtain⟨l',rfl,h1⟩:=hI;left;have hw:=bC (i+1) (by omega);have bT:(aB cF.v l').length<=1000:=by rw[uJ];omega
  have hb:((aB cF.v l').length+1)*64<=140737488355328:=by omega
  have e1:aB cF.v (l'++[l[i]])=aB cF.v l'++[l[i].v]:=by simp[aB]
  by_cases c1:l[i].account=id;have c1':(l[i].account=id)=True:=yT c1;by_cases c2:l[i].from'<=d;by_cases c3:d<=l[i].to';refine⟨[(1,.i .i64 id),(2,.i .i64 d),(7,.ow 156 (aB cF.v (l'++[l[i]]))),(10,.l (aB cF.v l)),(11,.i .i64 l.length),(12,.i .i64 ((i+1:Nat):Int))],?_,l'++[l[i]],rfl,by simp;omega⟩;rw[e1];generalize aB cF.v l'=U at hb⊢;simp[BR,hi,hw,c1',c2,c3,hb];exact⟨_,by simp[BR,hi,hw,c1',c2,c3],l',rfl,by omega⟩;exact⟨_,by simp[BR,hi,hw,c1',c2],l',rfl,by omega⟩;exact⟨_,by simp[BR,hi,hw,c1],l',rfl,by omega⟩;obtain⟨l',rfl,h1⟩:=hI;exact⟨(.e 0,[(7,.ow 156 (aB cF.v l'))]),by simp[BR],by simp,l',rfl,h1⟩
 obtain⟨r,hr,l',rfl,h1⟩:=this;have mQ:bP (O X) [1,2,7,10,11,12] BR [(1,.i .i64 id),(2,.i .i64 d),(7,.ow 156 []),(10,.l (aB cF.v l)),(11,.i .i64 l.length),(12,.i .i64 0)]=some (.e 0,[(7,.ow 156 (aB cF.v l'))]):=by simpa using hr
 exact⟨l',aI (fc:=Sn) aY0 rfl rfl (by simp[Sn,bA,mQ]),h1⟩
def cM7 (h:vN X)(x:cF)(n:Int):∃t:Bool,O X 107 [x.v,.r [.i .i64 n]]=some (.b t):=by obtain⟨t,ht⟩:=dQ5 h x n;exact⟨t,aI (fc:=aN6) cV8 rfl rfl (by simp[aN6,ht])⟩
def cM0 (h:vN X)(l:List cF)(n:Int)(hl:l.length<=1000):∃z:Int,O X 154 [.l (aB cF.v l),.f (.func 107) [] [.r [.i .i64 n]]]=some (.i .i64 z):=by
 have:∃r,bP (O X) [0,1,7,8] TN [(0,.l (aB cF.v l)),(1,.f (.func 107) [] [.r [.i .i64 n]]),(7,.i .i64 l.length),(8,.i .i64 ((0:Nat):Int))]=some r/\((∃z:Int,r=(.r,[(4,.i .i64 z)]))\/r=(.e 0,[])):=by refine Dt (fun i=>[(0,.l (aB cF.v l)),(1,.f (.func 107) [] [.r [.i .i64 n]]),(7,.i .i64 l.length),(8,.i .i64 (i:Int))]) l.length _ (by simp) (fun i hi=> ?_) ⟨(.e 0,[]),by simp[TN],by simp,.inr rfl⟩;have hw:=bC (i+1) (by omega);obtain⟨t,ht⟩:=cM7 h l[i] n;cases t with|true=>exact .inr ⟨(.r,[(4,.i .i64 (i:Int))]),by simp[TN,hi,ht],by simp,.inl ⟨i,rfl⟩⟩|false=>exact .inl (by simp[TN,hi,ht,hw])
 obtain⟨r,hr,hQ⟩:=this;simp only[fU] at hr;rcases hQ with⟨z,rfl⟩|rfl;exact⟨z,aI (fc:=Sb) aX5 rfl rfl (by simp[Sb,bA,hr])⟩;exact⟨-1,aI (fc:=Sb) aX5 rfl rfl (by simp[Sb,bA,hr])⟩
def u64 (h:vN X)(l:List cF)(id d n:Int)(hl:l.length<=1000):∃t:Bool,O X 64 [.l (aB cF.v l),.i .i64 id,.i .i64 d,.i .i64 n]=some (.b t):=by obtain⟨l',h1,zG⟩:=cM9 (X:=X) l id d hl;obtain⟨z,h2⟩:=cM0 h l' n (by omega);have h3:O X 105 [.l (aB cF.v l'),.f (.func 107) [] [.r [.i .i64 n]]]=some (.b (decide (0<=z))):=aI (fc:=aN7) cV9 rfl rfl (by simp[aN7,h2]);refine⟨decide (0<=z),aI (fc:=aG4) cQ1 rfl rfl ?_⟩;generalize aB cF.v l'=U at h1 h3;simp[aG4,h1,h3]
def N4 (j:List aW):Prop:=jok j=true/\∀id,-1000000000000000000<=oN id j/\oN id j<=1000000000000000000
set_option maxHeartbeats 4000000 in
def cM6 (hX:vN X)(b:cD)(id d:Int)(hm:Kr b)(hj:N4 b.journal)(fl er:Int)(F9:O X 30 [b.v,.i .i64 id,.i .i64 d]=some (.t [.i .i64 fl,.i .i64 er]))(fC: -2000000000000<=fl/\fl<=0):
  ∃n:Int,O X 109 [b.v,.i .i64 id,.i .i64 d]=some (.t [.i .i64 n,.i .i64 er])/\(er=0->n<=oN id b.journal - fl):=by
 by_cases h0:er=0;subst h0;have kF:=Dq hX b.journal id hj.1;have hB:=hj.2 id;obtain⟨s,h156,s0,s1⟩:=cL9 (X:=X) b.holds id d hm.holdL hm.holds;obtain⟨r,h157,r0,r1⟩:=dQ3 hX b.blocks id d hm.blkL hm.blks;generalize oN id b.journal=B at kF hB⊢;have cU:IntKind.i64.wrap (B - fl)=B - fl:=bC _ (by omega);have eZ:IntKind.i64.wrap (B - fl - s)=B - fl - s:=bC _ (by omega);have s8:IntKind.i64.wrap (B - fl - s - r)=B - fl - s - r:=bC _ (by omega);refine⟨B - fl - s - r,aI (fc:=Sm) aX9 rfl rfl ?_,fun _=>by omega⟩;simp[Sm,F9,kF,h156,h157,cU,eZ,s8];exact⟨0,aI (fc:=Sm) aX9 rfl rfl (by simp[Sm,F9,h0]),fun h=>absurd h h0⟩
def NS (X:aU)(b:cD):Prop:=∀(p:dO) (id d n:Int),p∈b.products->∃m:Int,O X 110 [b.v,p.v,.i .i64 id,.i .i64 d,.i .i64 n]=some (.i .i64 m)
set_option maxHeartbeats 4000000 in
def u65 (hX:vN X)(b:cD)(id d n:Int)(h:qU b)(hm:Kr b)(hj:N4 b.journal)(hR:NS X b):
  ∃m:Int,O X 65 [b.v,.i .i64 id,.i .i64 d,.i .i64 n]=some (.i .i64 m)/\(m=0->∃fl:Int,O X 30 [b.v,.i .i64 id,.i .i64 d]=some (.t [.i .i64 fl,.i .i64 0])/\-2000000000000<=fl/\fl<=0/\n<=oN id b.journal - fl):=by
 obtain⟨fl,er,F9,f1,f2,hp⟩:=u30 (X:=X) b id d h hm;obtain⟨a,h109,ha⟩:=cM6 hX b id d hm hj fl er F9 ⟨f1,f2⟩;by_cases h0:er=0;subst h0;by_cases hc:a<n;exact⟨18,aI (fc:=M9) Xy rfl rfl (by simp[M9,h109,hc]),fun h=>by omega⟩;obtain⟨p,hpm,h69⟩:=hp rfl;obtain⟨m,h110⟩:=hR p id d n hpm;exact⟨m,aI (fc:=M9) Xy rfl rfl (by simp[M9,h109,hc,h69,h110]),fun _=>⟨fl,F9,f1,f2,by have:=ha rfl;omega⟩⟩;exact⟨er,aI (fc:=M9) Xy rfl rfl (by simp[M9,h109,h0]),fun h=>absurd h h0⟩
def sU (x:bG):Lg:=⟨x.account,x.amount,x.currency⟩
def eP9 (l:List bG):aB bG.v l=aB Lg.v (l.map sU):=by simp[aB,sU]
def Dr (l:List bG):List Lg:=(yJ (l.map sU)).filter fun y=>decide (y.amt≠0)
def dS9:Bk 101=⟨61,true,false,M5,0⟩:=rfl
def dS8:Bk 102=⟨61,true,false,M1 103,0⟩:=rfl
def u61 (l:List bG)(hl:l.length<=1000):O X 61 [.l (aB bG.v l)]=some (.ow 61 (aB Lg.v (Dr l))):=by
 refine aI (fc:=aG5) cQ3 rfl rfl ?_;have h1:M5 [] [.l (aB bG.v l)]=some (aB Lg.v (yJ (l.map sU))):=by rw[eP9];simp only[M5,Zg,aZ,uP];rw[aY hl]
 have bT:(yJ (l.map sU)).length<=1000:=by have:=Vm (l.map sU) [];simp only[vR,uP] at this;unfold yJ;omega
 have h2:M1 103 (aB Lg.v (yJ (l.map sU))) [.f (.func 103) [] []]=some (aB Lg.v (Dr l)):=by simp only[M1,Zg,aZ,jA];rw[aY bT];rfl
 generalize aB bG.v l=E at h1⊢;generalize aB Lg.v (yJ (l.map sU))=C at h1 h2;simp[aG5,dS9,dS8,h1,h2]
def Kt (X:aU)(b:cD)(d:Int)(y:Lg):Prop:=1000<=y.acc->0<y.amt->∃fl:Int,O X 30 [b.v,.i .i64 y.acc,.i .i64 d]=some (.t [.i .i64 fl,.i .i64 0])/\-2000000000000<=fl/\fl<=0/\y.amt<=oN y.acc b.journal - fl
set_option maxHeartbeats 16000000 in
def r27 (hX:vN X)(b:cD)(e:aW)(h:qU b)(hm:Kr b)(hj:N4 b.journal)(hR:NS X b)(L:List Lg)(i:Nat)(hi:i<L.length)(hL:L.length<=1000):
  kE [2,3,15,16,17] (bI (O X) DT [(2,.bx b.cells),(3,.bx e.cells),(15,.ow 61 (aB Lg.v L)),(16,.i .i64 L.length),(17,.i .i64 i)])=some (.n,[(2,.bx b.cells),(3,.bx e.cells),(15,.ow 61 (aB Lg.v L)),(16,.i .i64 L.length),(17,.i .i64 ((i+1:Nat):Int))])/\Kt X b e.booked L[i]\/
   ∃n:Int,bI (O X) DT [(2,.bx b.cells),(3,.bx e.cells),(15,.ow 61 (aB Lg.v L)),(16,.i .i64 L.length),(17,.i .i64 i)]=some (.r,[(4,.i .i64 n)])/\n≠0:=by
 have hw:=bC (i+1) (by omega);generalize hy:L[i]=y;have fQ:L[i]? =some y:=by rw[eI hi,hy]
 by_cases c0:y.acc<1000;left;refine⟨?_,fun h1=>by omega⟩;simp[DT,hi,hy,c0,hw];obtain⟨a,t,p9,_⟩:=NJ b.accounts y.acc;have e62':=Fg (X:=X) b y.acc h.accs;rw[p9] at e62';cases t with|false=>right;exact⟨11,by simp[DT,hi,hy,c0,e62'],by decide⟩|true=>
 obtain⟨t,BD⟩:=YG (X:=X) b y.acc e.booked h.accs;cases t with|false=>right;exact⟨16,by simp[DT,hi,hy,c0,e62',BD],by decide⟩|true=>
 obtain⟨t,h64⟩:=u64 hX b.blocks y.acc e.booked y.amt (by have:=hm.blkL;omega);cases t with|true=>right;exact⟨19,by simp[DT,hi,hy,c0,e62',BD,h64],by decide⟩|false=>
 by_cases c1:0<y.amt;obtain⟨m,h65,hp⟩:=u65 hX b y.acc e.booked y.amt h hm hj hR;by_cases h0:m=0;subst h0;left;refine⟨?_,fun _ _=>hp rfl⟩;simp[DT,hi,hy,c0,e62',BD,h64,c1,h65,hw];right;exact⟨m,by simp[DT,hi,hy,c0,e62',BD,h64,c1,h65,h0],h0⟩;left;refine⟨?_,fun _ h2=>absurd h2 c1⟩;simp[DT,hi,hy,c0,e62',BD,h64,c1,hw]
def l27 (hX:vN X)(b:cD)(e:aW)(h:qU b)(hm:Kr b)(hj:N4 b.journal)(hR:NS X b)(L:List Lg)(hL:L.length<=1000):
  ∃r,bP (O X) [2,3,15,16,17] DT [(2,.bx b.cells),(3,.bx e.cells),(15,.ow 61 (aB Lg.v L)),(16,.i .i64 L.length),(17,.i .i64 0)]=some r/\((∃n:Int,r=(.r,[(4,.i .i64 n)])/\n≠0)\/(r=(.e 0,[])/\∀y∈L,Kt X b e.booked y)):=by
 have:=dW (o:=O X) (kin:=[2,3,15,16,17]) (c:=DT) (fun i aA=>aA=[(2,.bx b.cells),(3,.bx e.cells),(15,.ow 61 (aB Lg.v L)),(16,.i .i64 L.length),(17,.i .i64 (i:Int))]/\∀(k:Nat) (hk:k<L.length),k<i->Kt X b e.booked L[k]) L.length (fun r=>(∃n:Int,r=(.r,[(4,.i .i64 n)])/\n≠0)\/(r=(.e 0,[])/\∀y∈L,Kt X b e.booked y)) (fun i aA hI=>by obtain⟨rfl,_⟩:=hI;simp) (fun i aA hi hI=>by
  obtain⟨rfl,hz⟩:=hI;rcases r27 hX b e h hm hj hR L i hi hL with⟨hr,hF⟩|⟨n,hr,hn⟩;left;refine⟨_,hr,rfl,fun k hk kY=> ?_⟩;by_cases ek:k=i;subst ek;exact hF;exact hz k hk (by omega);right;exact⟨_,hr,by simp,.inl ⟨n,rfl,hn⟩⟩) (fun aA hI=>by
  obtain⟨rfl,hz⟩:=hI;refine⟨(.e 0,[]),by simp[DT],by simp,.inr ⟨rfl,fun x hx=> ?_⟩⟩;obtain⟨k,hk,rfl⟩:=lH hx;exact hz k hk hk) L.length 0 _ (by omega) ⟨rfl,fun k _ h=>absurd h (by omega)⟩
 simpa using this
def u27 (hX:vN X)(b:cD)(e:aW)(h:qU b)(hm:Kr b)(hj:N4 b.journal)(hR:NS X b)(hl:e.legs.length<=1000):
  ∃n:Int,O X 27 [b.v,e.v]=some (.i .i64 n)/\(n=0->e.auth=0->∀y∈Dr e.legs,Kt X b e.booked y):=by
 by_cases ha:e.auth=0;have CA:=u61 (X:=X) e.legs hl;have bT:(Dr e.legs).length<=1000:=by have h1:=Vm (e.legs.map sU) [];simp only[vR,uP] at h1;have h2:(Dr e.legs).length<=(yJ (e.legs.map sU)).length:=LG ..;unfold yJ at h2;omega
 obtain⟨r,hr,hQ⟩:=l27 hX b e h hm hj hR (Dr e.legs) bT;have iR:(aB Lg.v (Dr e.legs)).length=(Dr e.legs).length:=uJ ..;have oQ:(e.auth=0)=True:=yT ha;rcases hQ with⟨n,rfl,hn⟩|⟨rfl,hz⟩;exact⟨n,aI (fc:=Mi) X' rfl rfl (by simp[Mi,bA,oQ,CA,hr]),fun h=>absurd h hn⟩;exact⟨0,aI (fc:=Mi) X' rfl rfl (by simp[Mi,bA,oQ,CA,hr]),fun _ _=>hz⟩;exact⟨0,aI (fc:=Mi) X' rfl rfl (by simp[Mi,ha]),fun _ h=>absurd h ha⟩
end Go.Proofs.YtdlpbedneamebaaGreatDoor
