/-
Plain laws and walks: part of the proof of the last text.
-/
import Derived.Test.YtdlpbedneamebaaGreatDoorTLB
import Derived.Test.YtdlpbedneamebaaGreatDoorTrialS
import Derived.Test.YtdlpbedneamebaaGreatDoorTFB
set_option linter.all false
namespace Go.Proofs.YtdlpbedneamebaaGreatDoor
open Go.VM Go.RowKit
section
variable {X:aU}
structure XU (X:aU) (b:cD) (e:aW):Prop where
 szs:qU b
 lim:Kr b
 jb:JB b.journal
 rules:NS X b
 fit:XS e
 num:O2 e
def PN (X:aU)(b:cD)(e:aW)(y:V):Prop:=∃(out:List V) (n:Int),y= .t [.a out,.i .i64 n]/\((n≠0/\out=z22)\/(n=0/\∃c:Int,out=(nI b (b.journal++[pC e ((b.journal.length:Int)+1) c])).cells/\JI e/\(∀x∈e.legs,NX X b x)/\(e.auth=0->∀y∈Dr e.legs,Kt X b e.booked y)))
def PQ (X:aU)(xs:List V)(y:V):Prop:=∃(b:cD) (e:aW),xs=[b.v,e.v]/\PF Tryz.prog 11 xs y/\PN X b e y
open Classical in
noncomputable def Qz (X:aU)(xs:List V):Option V:=if h:∃y,PQ X xs y then some (Classical.choose h) else none
def dK2 {xs:List V}{y:V}(h:Qz X xs=some y):PF Tryz.prog 11 xs y:=by unfold Qz at h;split at h;rename_i hx;simp only[aH] at h;rw[<-h];obtain⟨_,_,_,h1,_⟩:=EV hx;exact h1;cases h
def dK1 (hX:vN X)(hs:eL Tryz.prog (O X)){b:cD}{e:aW}(c:XU X b e):∃y,Qz X [b.v,e.v]=some y/\PN X b e y:=by
 have hx:∃y,PQ X [b.v,e.v] y:=by obtain⟨out,n,h1,h2⟩:=dK0 hX hs b e c.szs c.lim c.jb c.rules c.fit c.num;exact⟨_,b,e,rfl,h1,out,n,rfl,h2⟩
 refine⟨Classical.choose hx,by unfold Qz;rw[H2 hx],?_⟩;obtain⟨b',e',he,_,h2⟩:=EV hx;rw[gG,gG] at he;have e1:=cD.inj _ _ he.1;have e2:=aW.inj _ _ he.2.1;generalize Classical.choose hx=y at h2⊢;rw[e1,e2];exact h2
def TQ (xs:List V)(j:List aW):Prop:=xs=[.l (ents j)]/\jok j=true/\∀e∈j,∀x∈e.legs,Dv x=true
open Classical in
noncomputable def Qg (xs:List V):Option V:=if h:∃j,TQ xs j then some (.ow 61 (aB bG.v (Bg (Classical.choose h)))) else none
def cO3 {xs:List V}{y:V}(h:Qg xs=some y):PF Tryz.prog 14 xs y:=by unfold Qg at h;split at h;rename_i hx;cases h;obtain⟨h1,h2,h3⟩:=EV hx;have:=cO6 h2 h3;rw[<-h1] at this;exact this;cases h
def cO2 {j:List aW}(h2:jok j=true)(h3:∀e∈j,∀x∈e.legs,Dv x=true):Qg [.l (ents j)]=some (.ow 61 (aB bG.v (Bg j))):=by have hx:∃k,TQ [.l (ents j)] k:=⟨j,rfl,h2,h3⟩;unfold Qg;rw[H2 hx];obtain⟨h1,_⟩:=EV hx;rw[gG] at h1;rw[<-(aW.enc).1 (V.l.inj h1.1)]
noncomputable def Um (f:Nat):Option aQ:=if f=4 then some Mc else none
noncomputable def PJ (X:aU):aU:=fun f xs=>if f=11 then Qz X xs else if f=14 then Qg xs else if f=10 then OB 10 xs else O X f xs
noncomputable def OT (X:aU):aU:=nE Um (PJ X)
def dO5:jG Tryz.prog 14=true:=by kernel_rfl
def dO6:jG Tryz.prog 11=true:=by kernel_rfl
def dC1 (hs:eL Tryz.prog (O X)):eL Tryz.prog (OT X):=by refine SB (fun f fc h=> ?_) (fun f xs y h=> ?_) RF;unfold Um at h;split at h;rename_i he;subst he;cases h;exact⟨_,Tryz.func4,eU0,dN8⟩;cases h;unfold PJ at h;split at h;rename_i he;subst he;exact⟨dO6,dK2 h⟩;split at h;rename_i he;subst he;exact⟨dO5,cO3 h⟩;split at h;rename_i he;subst he;exact dC2.2 10 xs y h;exact hs.2 f xs y h
def XO {f:Nat}{xs:List V}{y:V}(h4:f≠4)(uG:f≠11)(h14:f≠14)(oT:f≠10)(h:O X f xs=some y):OT X f xs=some y:=vJ (by unfold Um;rw[aK h4]) (by rw[PJ,aK uG,aK h14,aK oT];exact h)
def fD5:OT X 10 []=some (.b true):=vJ rfl (by rw[PJ,aK (by decide),aK (by decide),aY rfl];exact dX7)
def fD4 (hX:vN X)(hs:eL Tryz.prog (O X)){b:cD}{e:aW}(c:XU X b e):∃y,OT X 11 [b.v,e.v]=some y/\PN X b e y:=by obtain⟨y,h1,h2⟩:=dK1 hX hs c;exact⟨y,vJ rfl (by rw[PJ,aY rfl];exact h1),h2⟩
def fD3 {j:List aW}(h2:jok j=true)(h3:∀e∈j,∀x∈e.legs,Dv x=true):OT X 14 [.l (ents j)]=some (.ow 61 (aB bG.v (Bg j))):=
 vJ rfl (by rw[PJ,aK (by decide),aY rfl];exact cO2 h2 h3)
def dM0 {f:Nat}{fc:aQ}(ht:Um f=some fc){args:List V}{y:V}(hl:args.length=fc.np)(ha:args.all V.arg=true)(h:wH fc.res (bI (OT X) fc.body (kR 0 args))=some y):OT X f args=some y:=VM.run ht hl ha h
end
end Go.Proofs.YtdlpbedneamebaaGreatDoor
namespace Go.Proofs.YtdlpbedneamebaaGreatDoor
open Go.VM Go.RowKit
section
variable {X:aU}
set_option maxHeartbeats 8000000 in
def l4a (es:List aW)(m:Nat)(hm:m<es.length)(b nx:cD)(hl:es[m].legs.length<=1000)
  (kF:∀a:Int,OT X 12 [.l (aB aW.v b.journal),.i .i64 a]=some (.i .i64 (oN a b.journal)))(h12':∀a:Int,OT X 12 [.l (aB aW.v nx.journal),.i .i64 a]=some (.i .i64 (oN a nx.journal)))
  (qS:∀x∈es[m].legs,es[m].auth=0->1000<=x.account->oN x.account nx.journal<oN x.account b.journal->OT X 13 [nx.v,.i .i64 x.account,.i .i64 es[m].booked]=some (.b true)):
  bP (OT X) [1,2,5,6,8] Iu [(1,.l (aB aW.v es)),(2,.bx b.cells),(5,.i .i64 m),(6,.bx nx.cells),(8,.i .i64 0)]=some (.e 2,[(1,.l (aB aW.v es)),(2,.bx b.cells),(5,.i .i64 m),(6,.bx nx.cells)]):=by
 obtain⟨r,hr,rfl⟩:=dW (o:=OT X) (kin:=[1,2,5,6,8]) (c:=Iu) (fun i aA=>aA=[(1,.l (aB aW.v es)),(2,.bx b.cells),(5,.i .i64 m),(6,.bx nx.cells),(8,.i .i64 (i:Int))]) es[m].legs.length (fun r=>r=(.e 2,[(1,.l (aB aW.v es)),(2,.bx b.cells),(5,.i .i64 m),(6,.bx nx.cells)])) (fun i aA hI=>by subst hI;simp) (fun i aA hi hI=>by
  subst hI;left;have hw:=bC (i+1) (by omega);have a1:=kF es[m].legs[i].account;have a2:=h12' es[m].legs[i].account;have a3:=qS es[m].legs[i] (gN hi);refine⟨_,?_,rfl⟩;by_cases c1:es[m].auth=0;by_cases c2:oN es[m].legs[i].account nx.journal<oN es[m].legs[i].account b.journal;by_cases c3:1000<=es[m].legs[i].account;have a4:=a3 c1 c3 c2;simp[Iu,hm,hi,hw,a1,a2,a4,c1,c2,c3];simp[Iu,hm,hi,hw,a1,a2,c1,c2,c3];simp[Iu,hm,hi,hw,a1,a2,c1,c2];simp[Iu,hm,hi,hw,c1]) (fun aA hI=>by
  subst hI;exact⟨_,by simp[Iu,hm],by simp,rfl⟩) es[m].legs.length 0 _ (by omega) rfl
 simpa using hr
def Jd {B:List V}(h:∀y∈B,V.cell y=true):(∀y∈B,V.cell y=true)=True:=yT h
set_option maxHeartbeats 8000000 in
def r4a (es:List aW)(i:Nat)(hi:i<es.length)(hn:es.length<=20)(B out:List V)(hB:B.length=22)(hBc:∀y∈B,V.cell y=true)(ho:out.length=22)(hoc:∀y∈out,V.cell y=true){n:Int}(h0:n≠0)(uG:OT X 11 [.a B,es[i].v]=some (.t [.a out,.i .i64 n])):
  kE [1,2,5] (bI (OT X) K9 [(1,.l (aB aW.v es)),(2,.bx B),(5,.i .i64 i)])=some (.n,[(1,.l (aB aW.v es)),(2,.bx B),(5,.i .i64 ((i+1:Nat):Int))]):=by
 have hw:=bC (i+1) (by omega);have q1:=Jd hBc;have q2:=Jd hoc;simp(config := { maxSteps := 3000000 }) [K9,hi,hw,hB,ho,h0,uG,q1,q2]
set_option maxHeartbeats 8000000 in
def r4b (es:List aW)(i:Nat)(hi:i<es.length)(hn:es.length<=20)(B out:List V)(hB:B.length=22)(hBc:∀y∈B,V.cell y=true)(ho:out.length=22)(hoc:∀y∈out,V.cell y=true)(uG:OT X 11 [.a B,es[i].v]=some (.t [.a out,.i .i64 0]))
  (hl:bP (OT X) [1,2,5,6,8] Iu [(1,.l (aB aW.v es)),(2,.bx B),(5,.i .i64 i),(6,.bx out),(8,.i .i64 0)]=some (.e 2,[(1,.l (aB aW.v es)),(2,.bx B),(5,.i .i64 i),(6,.bx out)])):
  kE [1,2,5] (bI (OT X) K9 [(1,.l (aB aW.v es)),(2,.bx B),(5,.i .i64 i)])=some (.n,[(1,.l (aB aW.v es)),(2,.bx out),(5,.i .i64 ((i+1:Nat):Int))]):=by
 have hw:=bC (i+1) (by omega);have q1:=Jd hBc;have q2:=Jd hoc;simp(config := { maxSteps := 3000000 }) [K9,hi,hw,hB,ho,uG,q1,q2,bA,hl]
end
end Go.Proofs.YtdlpbedneamebaaGreatDoor
namespace Go.Proofs.YtdlpbedneamebaaGreatDoor
open Go.VM Go.RowKit
section
variable {X:aU}
structure JT (L:Nat) (js:List aW):Prop where
 jb:JB js
 len:js.length<=L
 flat:∀e∈js,EU e.legs
 leg:∀e∈js,∀x∈e.legs,Dv x=true
def JT.jk {L:Nat}{js:List aW}(h:JT L js):jok js=true:=h.jb.jok
def JT.app {L:Nat}{js:List aW}(h:JT L js)(hL:L<400){e:aW}(hc:JI e)(he:∀x∈e.legs,Dv x=true)(n c:Int):JT (L+1) (js++[pC e n c]):=by refine⟨h.jb.post (Nat.lt_of_le_of_lt h.len hL) hc n c,by have:=h.len;simp;omega,fun x hx=> ?_,fun x hx=> ?_⟩<;>rcases iC.1 hx with hx|hx;exact h.flat x hx;rw[uQ.1 hx];exact hc.flat;exact h.leg x hx;rw[uQ.1 hx];exact he
def Mt (b:cD):∀y∈b.cells,V.cell y=true:=by simp
def eW7:∀y∈z22,V.cell y=true:=by simp[z22]
set_option maxHeartbeats 4000000 in
def l4b (hX:vN X)(hs:eL Tryz.prog (O X))(b:cD)(es:List aW)(hn:es.length<=20)(hJ:JT 110 b.journal)(hl:∀e∈es,∀x∈e.legs,Dv x=true)(hC:∀js,JT 200 js->∀e∈es,XU X (nI b js) e):
  ∃js,JT 200 js/\bP (OT X) [1,2,5] K9 [(1,.l (aB aW.v es)),(2,.bx b.cells),(5,.i .i64 0)]=some (.e 0,[(2,.bx (nI b js).cells)]):=by
 obtain⟨r,hr,js,hj,rfl⟩:=dW (o:=OT X) (kin:=[1,2,5]) (c:=K9) (fun i aA=>∃js,aA=[(1,.l (aB aW.v es)),(2,.bx (nI b js).cells),(5,.i .i64 (i:Int))]/\JT (110+i) js) es.length (fun r=>∃js,JT 200 js/\r=(.e 0,[(2,.bx (nI b js).cells)])) (fun i aA hI=>by obtain⟨js,rfl,_⟩:=hI;simp) (fun i aA hi hI=>by
  obtain⟨js,rfl,hj⟩:=hI;left;have hj2:JT 200 js:=⟨hj.jb,by have:=hj.len;omega,hj.flat,hj.leg⟩;have hc:=hC js hj2 es[i] (gN hi);obtain⟨y,uG,out,n,rfl,hy⟩:=fD4 hX hs hc;rcases hy with⟨h0,rfl⟩|⟨rfl,c,rfl,hk,sC,hF⟩;exact⟨_,r4a es i hi hn (nI b js).cells z22 rfl (Mt _) rfl eW7 h0 uG,js,rfl,⟨hj.jb,by have:=hj.len;omega,hj.flat,hj.leg⟩⟩;have hj3:=hj.app (by omega) hk (hl es[i] (gN hi)) (((nI b js).journal.length:Int)+1) c;refine⟨_,r4b es i hi hn (nI b js).cells (nI (nI b js) ((nI b js).journal++[pC es[i] (((nI b js).journal.length:Int)+1) c])).cells rfl (Mt _) rfl (Mt _) uG ?_,_,rfl,hj3⟩;refine l4a es i hi (nI b js) (nI (nI b js) ((nI b js).journal++[pC es[i] (((nI b js).journal.length:Int)+1) c])) (fG hk.len (by decide)) (fun a=>XO (by decide) (by decide) (by decide) (by decide) (Dq hX _ a hj.jk)) (fun a=>XO (by decide) (by decide) (by decide) (by decide) (Dq hX _ a hj3.jk)) (fun x hx ha h1 bE=>XO (by decide) (by decide) (by decide) (by decide) ?_);exact dD8 hX (nI b js) es[i] _ c hc.szs hc.jb (by have:=hj.len;show js.length<400;omega) hk sC (hF ha) hx h1 bE) (fun aA hI=>by
  obtain⟨js,rfl,hj⟩:=hI;exact⟨_,by simp[K9],by simp,js,⟨hj.jb,by have:=hj.len;omega,hj.flat,hj.leg⟩,rfl⟩) es.length 0 _ (by omega) ⟨b.journal,rfl,hJ⟩
 exact⟨js,hj,hr⟩
end
end Go.Proofs.YtdlpbedneamebaaGreatDoor
namespace Go.Proofs.YtdlpbedneamebaaGreatDoor
open Go.VM Go.RowKit
section
variable {X:aU}
set_option maxHeartbeats 4000000 in
def l4c (T:List bG)(i:Nat)(hi:i<T.length)(hT:T.length<=4000):
  bP (OT X) [10,11,12,13] P4 [(10,.ow 61 (aB bG.v T)),(11,.i .i64 i),(12,.i .i64 0),(13,.i .i64 0)]=some (.e 6,[(10,.ow 61 (aB bG.v T)),(11,.i .i64 i),(12,.i .i64 (IntKind.i64.wrap (gL T[i].currency T)))]):=by
 obtain⟨r,hr,rfl⟩:=dW (o:=OT X) (kin:=[10,11,12,13]) (c:=P4) (fun j aA=>aA=[(10,.ow 61 (aB bG.v T)),(11,.i .i64 i),(12,.i .i64 (IntKind.i64.wrap (gL T[i].currency (T.take j)))),(13,.i .i64 (j:Int))]) T.length (fun r=>r=(.e 6,[(10,.ow 61 (aB bG.v T)),(11,.i .i64 i),(12,.i .i64 (IntKind.i64.wrap (gL T[i].currency T)))])) (fun i aA hI=>by subst hI;simp) (fun j aA hj hI=>by
  subst hI;left;have hw:=bC (j+1) (by omega);refine⟨_,?_,rfl⟩;rw[Ue _ _ hj];generalize gL T[i].currency (T.take j)=s;have hs:IntKind.i64.wrap (IntKind.i64.wrap s+T[j].amount)=IntKind.i64.wrap (s+T[j].amount):=by rw[oV,oV,oV];omega
  by_cases hc:T[j].currency=T[i].currency;simp[P4,hi,hj,hw,hc,hs];simp[P4,hi,hj,hw,hc]) (fun aA hI=>by
  subst hI;rw[D0];exact⟨_,by simp[P4],by simp,rfl⟩) T.length 0 [(10,.ow 61 (aB bG.v T)),(11,.i .i64 i),(12,.i .i64 0),(13,.i .i64 0)] (by omega) (by
   have:IntKind.i64.wrap 0=0:=by decide
   simp[gL,this])
 exact hr
set_option maxHeartbeats 4000000 in
def l4d (T:List bG)(hT:T.length<=4000)(hF:EU T):bP (OT X) [10,11] Sz [(10,.ow 61 (aB bG.v T)),(11,.i .i64 0)]=some (.e 4,[]):=by
 obtain⟨r,hr,rfl⟩:=dW (o:=OT X) (kin:=[10,11]) (c:=Sz) (fun j aA=>aA=[(10,.ow 61 (aB bG.v T)),(11,.i .i64 (j:Int))]) T.length (fun r=>r=(.e 4,[])) (fun i aA hI=>by subst hI;simp) (fun j aA hj hI=>by
  subst hI;left;have hw:=bC (j+1) (by omega);have h3:=l4c (X:=X) T j hj hT;rw[hF T[j].currency] at h3;exact⟨_,by simp[Sz,hj,hw,bA,h3],rfl⟩) (fun aA hI=>by
  subst hI;exact⟨_,by simp[Sz],by simp,rfl⟩) T.length 0 _ (by omega) rfl
 exact hr
end
end Go.Proofs.YtdlpbedneamebaaGreatDoor
namespace Go.Proofs.YtdlpbedneamebaaGreatDoor
open Go.VM Go.RowKit
section
variable {X:aU}
set_option maxHeartbeats 8000000 in
def dY9 (hX:vN X)(hs:eL Tryz.prog (O X))(b:cD)(es:List aW)(bT:es.length<=maxLen)(hl:∀e∈es,∀x∈e.legs,Dv x=true)(t:Bool)(h5:O X 5 [b.v]=some (.b t))(ht:t=true->JT 110 b.journal/\∀js,JT 200 js->∀e∈es,XU X (nI b js) e):
  OT X 4 [b.v,.l (aB aW.v es)]=some (.b true):=by
 refine dM0 (fc:=Mc) rfl rfl rfl ?_;have oT:=fD5 (X:=X);have h5':OT X 5 [b.v]=some (.b t):=XO (by decide) (by decide) (by decide) (by decide) h5;cases t with
 |false=>have hv:b.v= .a b.cells:=rfl;have hB:b.cells.length=22:=rfl;have hc:=Jd (Mt b);rw[hv] at h5'⊢;generalize b.cells=B at h5' hB hc⊢;simp(config := { maxSteps := 3000000 }) [Mc,h5',oT,hB,hc]
 |true=>
  by_cases hn:es.length<=20;obtain⟨hJ,hC⟩:=ht rfl;obtain⟨js,hj,aA3⟩:=l4b hX hs b es hn hJ hl hC;have h14:=fD3 (X:=X) hj.jk hj.leg;have hT:(Bg js).length<=4000:=by have h1:=cN9 hj.jb.legs;have h2:=hj.len;omega
  have hd:=l4d (X:=X) (Bg js) hT (cO1 hj.flat);have hv:b.v= .a b.cells:=rfl;have hB:b.cells.length=22:=rfl;have hc:=Jd (Mt b);have BC:(nI b js).cells.length=22:=rfl;have eO:=Jd (Mt (nI b js));have hg:(nI b js).cells[19]? =some (.l (ents js)):=rfl;rw[hv] at h5'⊢;generalize b.cells=B at h5' hB hc aA3⊢;generalize (nI b js).cells=C at BC eO hg aA3;have sD:C[19]'(by omega)= .l (ents js):=by rw[eI (by omega)] at hg;exact uR hg
  simp(config := { maxSteps := 3000000 }) [Mc,h5',oT,hB,hc,hn,bA,aA3,BC,eO,sD,h14,hd];have hv:b.v= .a b.cells:=rfl;have hB:b.cells.length=22:=rfl;have hc:=Jd (Mt b);rw[hv] at h5'⊢;generalize b.cells=B at h5' hB hc⊢;have kC:20<es.length:=by omega
  simp(config := { maxSteps := 3000000 }) [Mc,h5',oT,hB,hc,kC];intro h;omega
end
end Go.Proofs.YtdlpbedneamebaaGreatDoor
