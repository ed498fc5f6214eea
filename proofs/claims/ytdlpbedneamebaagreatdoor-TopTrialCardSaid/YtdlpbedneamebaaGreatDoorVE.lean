/-
The evaluator and its soundness: part of the proof of the last text.
-/
import Derived.Test.YtdlpbedneamebaaGreatDoorVD
import Derived.Test.YtdlpbedneamebaaGreatDoorVC
import Derived.ProofKit
set_option linter.all false
namespace Go.VM
open Go.RowKit
variable [cB]
section
variable {P:Program} {nt:Nat} {keep:List Nat} {S:Nat->Prop} {aD:Nat} {w0:World} {aA aN:aG} {a:Act} {w:World} {o:aU}
def Gk {r:Result Next}{K:Value->World->Prop}{u:Value}{w1:World}(h:r= .ok (.value u) w1)(hk:K u w1):f8 P r K:=by subst h;exact hk
def ZF {r:Result Next}{K:Value->World->Prop}{w1:World}(h:r= .ok .skip w1)(hk:K undef w1):f8 P r K:=by subst h;exact hk
def dN1 {z:List V}{ps:List (Nat×Nat)}(vs:List V):aS o (.bld z ps) vs=(yM z ps vs).map .a:=by
 match vs with|[]=>simp[aS]|[x]=>cases x<;>simp[aS]|[x,y]=>cases x<;>cases y<;>simp[aS]|x::y::_::_=>cases x<;>simp[aS]
def VW {α:Type}{as:Array α}{x y:α}(h:as.toList=[x,y]):as= #[x,y]:=by apply w9.1;simp[h]
def Jh (ho:eL P o)(hF:FI P nt keep S aD w0 aA a w){oper:Oper}{st:St}(cC:Ht P oper=some st)(aC:bS o aA st=some aN)(eN:∀d,oper.dst=some d->d∈keep/\d<nt):
  oper.guard=none/\f8 P ((execOp a.eval oper).run P w) fun u w1=>FI P nt keep S aD w0 aN (a.put oper.dst u) w1:=by
 unfold Ht at cC;split at cC;cases cC;rename_i yC;refine⟨by simpa using yC,?_⟩;have one:∀{d:Nat},oper.dst=some d->(∃u w1,(execOp a.eval oper).run P w= .ok (.value u) w1/\FI P nt keep S aD w0 aN (a.put (some d) u) w1)->f8 P ((execOp a.eval oper).run P w) fun u w1=>FI P nt keep S aD w0 aN (a.put oper.dst u) w1:=by intro d hd ⟨u,w1,h1,h2⟩;exact Gk h1 (by rw[hd];exact h2)
 have one':∀{d:Nat},oper.dst=some d->(∃u,(execOp a.eval oper).run P w= .ok (.value u) w/\FI P nt keep S aD w0 aN (a.put (some d) u) w)->f8 P ((execOp a.eval oper).run P w) fun u w1=>FI P nt keep S aD w0 aN (a.put oper.dst u) w1:=by intro d hd ⟨u,h1,h2⟩;exact Gk h1 (by rw[hd];exact h2)
 split at cC
 ·
  rename_i x d aO hd;obtain⟨hk,bE⟩:=eN d hd;simp only[bL,aH] at cC;obtain⟨s,hs,rfl⟩:=cC;exact one' hd ⟨a.eval x,by simp[execOp,aO],cZ6 hF hk bE hs aC⟩
 ·
  rename_i x d aO hd;obtain⟨hk,bE⟩:=eN d hd;simp only[bL,aH] at cC;obtain⟨s,hs,rfl⟩:=cC;exact one' hd ⟨a.eval x,by simp[execOp,aO],dB1 hF hk bE hs aC⟩
 ·
  rename_i t x i d aO hd;obtain⟨hk,bE⟩:=eN d hd;split at cC;rename_i e hu;simp only[bL] at cC;obtain⟨s,hs,j,hj,cC⟩:=cC;split at cC;cases cC;exact one' hd (dA3 hF hk bE aO hu ‹_› hs hj aC);cases cC;cases cC
 ·
  rename_i t x i d aO hd;obtain⟨hk,bE⟩:=eN d hd;split at cC;rename_i fs hu;simp only[bL] at cC;obtain⟨f,hf,s,hs,cC⟩:=cC;split at cC;cases cC;exact one' hd (dA5 hF hk bE aO hu hf ‹_› hs aC);cases cC;cases cC
 ·
  rename_i t x v aO hd;simp only[bL] at cC;obtain⟨s,hs,sv,hsv,cC⟩:=cC;split at cC;cases cC;rename_i lE;cases cC;obtain⟨w1,h1,h2⟩:=cZ4 hF aO hs hsv aC (by omega);exact ZF h1 (by rw[hd];exact h2)
 ·
  rename_i n i d aO hd;obtain⟨hk,bE⟩:=eN d hd;cases cC;exact one' hd (dA6 hF hk bE aO aC)
 ·
  rename_i t d aO hd;obtain⟨hk,bE⟩:=eN d hd;simp only[bL,aH] at cC;obtain⟨_,_,rfl⟩:=cC;exact one hd (dA0 hF hk bE aO aC)
 ·
  rename_i t x k d aO hd;obtain⟨hk,bE⟩:=eN d hd;simp only[bL,aH] at cC;obtain⟨⟨kt,e⟩,ht,z,hz,s,hs,j,hj,rfl⟩:=cC;exact one' hd (dA2 hF hk bE ht hz hs hj aO aC)
 ·
  rename_i t x k v aO hd;simp only[bL,aH] at cC;obtain⟨⟨kt,e⟩,ht,s,hs,j,hj,l,hl,rfl⟩:=cC;obtain⟨w1,h1,h2⟩:=cZ8 hF ht hs hj hl aO aC;exact ZF h1 (by rw[hd];exact h2)
 ·
  rename_i t x y d aO hd;obtain⟨hk,bE⟩:=eN d hd;simp only[bL] at cC;obtain⟨k,uC,b,AL,e,he,z,hz,cC⟩:=cC;split at cC;rename_i hc;cases cC;obtain⟨rfl,hc⟩:=hc;exact one hd (cZ9 hF hk bE aO uC AL he hz hc aC);cases cC
 ·
  rename_i t u x d aO hd;obtain⟨hk,bE⟩:=eN d hd;split at cC;rename_i e ht hu;split at cC;rename_i he;simp only[bL] at cC;obtain⟨s,hs,cC⟩:=cC;split at cC;cases cC;exact one hd (cZ5 hF hk bE aO ht hu he hs aC);cases cC;cases cC;rename_i k1 k2 ht hu;simp only[bL,aH] at cC;obtain⟨s,hs,rfl⟩:=cC;have hq:wI P (.convert t u x)=some (.cnv k2,[x]):=by simp only[wI,ht,hu]
  exact one' hd (YT (o:=o) hF hk bE hq rfl (by simp only[srcs,hs,aZ]) aO aC);rename_i e ht hu;split at cC;rename_i he;simp only[bL,aH] at cC;obtain⟨s,hs,rfl⟩:=cC;have hq:wI P (.convert t u x)=some (.b2s,[x]):=by simp only[wI,ht,hu,he]
  exact one' hd (YT (o:=o) hF hk bE hq rfl (by simp only[srcs,hs,aZ]) aO aC);cases cC;cases cC
 ·
  rename_i t x d aO hd;obtain⟨hk,bE⟩:=eN d hd;simp only[bL] at cC;obtain⟨s,hs,cC⟩:=cC;split at cC;cases cC;cases cC;exact one hd (dB0 hF hk bE aO hs aC)
 ·
  rename_i t d aO hd;obtain⟨hk,bE⟩:=eN d hd;simp only[bL,aH] at cC;obtain⟨z,hz,rfl⟩:=cC;exact one hd (dB3 hF hk bE aO hz aC)
 ·
  rename_i fn fs cs d aO hd;obtain⟨hk,bE⟩:=eN d hd;simp only[bL,aH] at cC;obtain⟨ss,hs,rfl⟩:=cC;exact one' hd (dA1 hF hk bE aO hs aC)
 ·
  rename_i t n ps d aO hd;obtain⟨hk,bE⟩:=eN d hd;split at cC;rename_i k uC;simp only[bL] at cC;obtain⟨e,he,cC⟩:=cC;split at cC;simp only[bL,aH] at cC;obtain⟨ss,hs,rfl⟩:=cC;exact one hd (dA9 hF hk bE aO uC he ‹_› hs aC);cases cC;cases cC
 ·
  rename_i args tys d aO hd;obtain⟨hk,bE⟩:=eN d hd;split at cC;rename_i x y t u pZ htys;simp only[bL] at cC;obtain⟨k,uC,b,AL,s,hs,z,hz,e,he,zc,hzc,cC⟩:=cC;split at cC;rename_i hc;cases cC;obtain⟨rfl,oE,eO,hc3⟩:=hc;rw[VW pZ,VW htys] at aO;exact one hd (dB2 hF hk bE aO uC AL he hzc ⟨oE,eO,hc3⟩ hs hz aC);cases cC;cases cC
 ·
  rename_i args tys aO;split at cC;rename_i x y t u pZ htys;split at cC;rename_i e hu;simp only[bL] at cC;obtain⟨s,hs,z,hz,cC⟩:=cC;split at cC;rename_i hi;cases cC;rw[VW pZ,VW htys] at aO;cases s with|c v=>simp[bS] at aC|t n=>obtain⟨v,w1,hr,hf⟩:=dA7 hF eN aO hu hi rfl hs hz aC;exact Gk hr hf
  cases cC;cases cC;cases cC
 ·
  simp only[bL] at cC;obtain⟨⟨p,xs⟩,hq,ss,hs,cC⟩:=cC;rcases VK hq with hp|⟨f,args,tys,aO,rfl,rfl⟩|⟨x,args,tys,aO,rfl,rfl⟩|⟨t,n,ps,k,aO,hk,hc,rfl,rfl⟩
  ·simp only at cC hs hp;have plain:∀d,oper.dst=some d->st= .q d p ss->f8 P ((execOp a.eval oper).run P w) fun u w1=>FI P nt keep S aD w0 aN (a.put oper.dst u) w1:=by
    intro d hd he;subst he;obtain⟨hk,bE⟩:=eN d hd;exact one' hd (YT hF hk bE hq hp hs rfl aC)
   cases hd:oper.dst with
   |none=>rw[hd] at cC;cases p<;>first |(cases cC;done)|(simp[jU.plain] at hp;done)
   |some d=>
    rw[hd] at cC;obtain⟨hk,bE⟩:=eN d hd;rw[<-hd];cases p with
    |bld z ps=>cases cC;simp only[bS,bL,aH] at aC;obtain⟨vs,hl,r,hb,rfl⟩:=aC;exact one' hd (YS (o:=o) hF hk bE hq hp hs rfl hl (by rw[dN1,hb];rfl) (by simp))
    |slc k lo hi=>cases cC;simp only[bS,bL,aH] at aC;obtain⟨vs,hl,r,hb,rfl⟩:=aC;refine one' hd (YS (o:=o) hF hk bE hq hp hs rfl hl hb fun ys e=> ?_);obtain⟨es,bs,p,_,_,_,h⟩:=bP0 hb;rw[h] at e;cases e
    |_=>first |(simp[jU.plain] at hp;done)|(cases cC;done)|(simp only[aH] at cC;exact plain d hd cC.symm)
  simp only at cC hs;by_cases hmu:(cB.muts.lookup f).isSome=true;rw[aY hmu] at cC;obtain⟨mu,hmu⟩:=E1.1 hmu;have hmo:Bk f=mu:=by simp[Bk,hmu]
  have hen:=fun w'=>WW (ρ:=a.eval) (fun _=>rfl) aO ((ho.1 f mu hmu).1) w';rw[hmo] at cC;simp only[gY] at cC;obtain⟨p,hp,rfl⟩:=cC;obtain⟨x0,xr,hal,fM,hss1⟩:=bA8 hp hs;refine dA8 ho hF eN hmu fM hss1 ?_ aC;rw[hen w];congr 2;apply w9.1;rw[Tf,hal,bP9];rw[aK hmu] at cC;simp only[aH] at cC;subst cC;simp only[bS,bL,aH] at aC;obtain⟨vs,hl,r,hr,rfl⟩:=aC;refine bA4 ho hF eN hs hl fun S kN=>⟨f,args.toList.map a.eval,vs,hr,kN,?_⟩;rw[aO2 ho (ρ:=a.eval) (fun _=>rfl) aO hr w];congr 2;apply w9.1;simp;simp only[aH] at cC;subst cC;simp only[bS,bL,aH] at aC;obtain⟨vs,hl,r,hr,rfl⟩:=aC;refine bA4 ho hF eN hs hl fun S kN=> ?_;obtain⟨f,us,zs,hz,Bo,bY⟩:=aO1 ho aO kN hr;exact⟨f,us,zs,hz,Bo,bY w⟩;cases hd:oper.dst<;>rw[hd] at cC<;>cases cC
def FI.keys_mono (hF:FI P nt keep S aD w0 aA a w){oO:List Nat}(hk:∀n,n∈keep->n∈oO):FI P nt oO S aD w0 aA a w:=
 ⟨hF.srt,hF.size,hF.defers,hF.below,hF.kept,hF.bsz,fun n x hx=>⟨hk n (hF.keys n x hx).1,(hF.keys n x hx).2⟩,hF.ents⟩
def FI.filter (hF:FI P nt keep S aD w0 aA a w)(f:Nat->Bool){oO:List Nat}(hk:∀n,n∈keep->f n=true->n∈oO):
  FI P nt oO S aD w0 (aA.filter fun p=>f p.1&&(match p.2.names with |none=>true|some m=>f m)) a w:=by
 obtain⟨Im,cE,bK,hE⟩:=hF.ents;have hg:∀n x,aF n (aA.filter fun p=>f p.1&&(match p.2.names with |none=>true|some m=>f m))=some x->aF n aA=some x/\f n=true/\∀m,x.names=some m->f m=true:=by intro n x hx;rw[Rk hF.srt] at hx;cases hq:aF n aA with|none=>rw[hq] at hx;cases hx|some y=>rw[hq] at hx;simp only[aZ] at hx;by_cases hc:(f n&&(match y.names with |none=>true|some m=>f m))=true;rw[aY hc] at hx;cases hx;simp only[fA] at hc;exact⟨rfl,hc.1,fun m hm=>by have:=hc.2;rw[hm] at this;exact this⟩;rw[aK hc] at hx;cases hx
 refine⟨hF.srt.filter _,hF.size,hF.defers,hF.below,hF.kept,hF.bsz,fun n x hx=> ?_,Im,cE,bK,hE.sub (fun n x hx=>(hg n x hx).1) fun n x m hx hm=> ?_⟩;obtain⟨h1,h2,_⟩:=hg n x hx;exact⟨hk n (hF.keys n x h1).1 h2,(hF.keys n x h1).2⟩;obtain⟨h1,h2,h3⟩:=hg n x hx;obtain⟨y,hy,hyn⟩:=hE.closed n x m h1 hm;refine⟨y,?_,hyn⟩;rw[Rk hF.srt,hy];simp[hyn,h3 m hm]
def FI.dropE (hF:FI P nt keep S aD w0 aA a w)(ks:List Nat){oO:List Nat}(hk:∀n,n∈keep->n ∉ ks->n∈oO):FI P nt oO S aD w0 (dropE ks aA) a w:=
 hF.filter (fun n=> !ks.contains n) fun n hn hf=>hk n hn (by simpa using hf)
def FI.keepE (hF:FI P nt keep S aD w0 aA a w)(ks:List Nat):FI P nt keep S aD w0 (keepE ks aA) a w:=
 hF.filter (fun n=>ks.contains n) fun _ hn _=>hn
def bA0 (ho:eL P o){bB:List Oper}{Q:Exit->Act->World->Prop}{aN:aG}:∀(r:List Oper) (ss:List St) (n:Nat) (aA:aG) (a:Act) (w:World),n9 P r=some ss->nM o ss aA=some aN->bB.drop n=r->(∀op∈r,∀d,op.dst=some d->d∈keep/\d<nt)->
  FI P nt keep S aD w0 aA a w->(∀a' w',FI P nt keep S aD w0 aN a' w'->Q .normal a' w')->wpOps P bB.toArray Q (List.range' n r.length) a w
 |[],ss,n,aA,a,w,eK,aC,_,_,hF,hQ=>by simp only[n9,aH] at eK;subst eK;simp only[nM,aH] at aC;subst aC;exact hQ a w hF
 |op::r,ss,n,aA,a,w,eK,aC,yE,hk,hF,hQ=>by
  simp only[n9,bL,aH] at eK;obtain⟨s,hs,ss',AG,rfl⟩:=eK;simp only[nM,bL] at aC;obtain⟨aM,h1,h2⟩:=aC;obtain⟨hat,Co⟩:=Ib yE;obtain⟨hg,dN⟩:=Jh ho hF hs h1 (hk op (dC ..));simp only[fY,GP,wpOps,CL,hat];have hw:Region.wanted op (yielded bB.toArray a.tmps)=true:=by simp[Region.wanted,hg]
  rw[aY hw];left;refine f8.wp ?_;revert dN;generalize (execOp a.eval op).run P w=res;intro dN;have next:∀u w1,FI P nt keep S aD w0 aM (a.put op.dst u) w1->wpOps P bB.toArray Q (List.range' (n+1) r.length) (a.put op.dst u) w1:=fun u w1 h=>
   bA0 ho r ss' (n+1) aM _ w1 AG h2 Co (fun eX h'=>hk eX (dL _ h')) h hQ
  unfold f8 at dN⊢;split at dN
  ·exact next _ _ dN
  ·exact next _ _ dN
  ·exact dN.mono fun e w1 ⟨u,he,h⟩=>⟨u,he,next _ _ h⟩
  exact dN.elim
def FI.putO_ud (hF:FI P nt keep S aD w0 aA a w){d:Option Nat}(hk:∀n,d=some n->n∈keep/\n<nt){u:Value}:FI P nt keep S aD w0 (rC d .ud aA) (a.put d u) w:=by cases d with|none=>exact hF|some n=>exact hF.put_ud (hk n rfl).1 (hk n rfl).2
def RL (hF:FI P nt keep S aD w0 aA a w){c:Nat}{u:Bool}(h:iH aA c=some (.b u)):a.tmps[c]? =some (.bool u):=by obtain⟨Im,_,bK,hE⟩:=hF.ents;obtain⟨v,hv,hr⟩:=RK hE (fun b h=>(bK b h).2) h;cases hr;exact hv
def QO {bB:List Oper}{op:Oper}{i:Nat}{r:List Nat}{Q:Exit->Act->World->Prop}(hat:bB[i]? =some op)(hw:Region.wanted op (yielded bB.toArray a.tmps)=true){K:Value->World->Prop}
  (dN:f8 P ((execOp a.eval op).run P w) K)(next:∀u w1,K u w1->wpOps P bB.toArray Q r (a.put op.dst u) w1):wpOps P bB.toArray Q (i::r) a w:=by
 simp only[wpOps,CL,hat];rw[aY hw];left;refine f8.wp ?_;revert dN;generalize (execOp a.eval op).run P w=res;intro dN;unfold f8 at dN⊢;split at dN
 ·exact next _ _ dN
 ·exact next _ _ dN
 ·exact dN.mono fun e w1 ⟨u,he,h⟩=>⟨u,he,next _ _ h⟩
 exact dN.elim
def bA2 (ho:eL P o){bB:List Oper}{Q:Exit->Act->World->Prop}{aN:aG}:∀(r:List Oper) (ss:List gX) (n:Nat) (aA:aG) (a:Act) (w:World),G8 P bB r=some ss->C2 o ss aA=some aN->bB.drop n=r->(∀op∈r,∀d,op.dst=some d->d∈keep/\d<nt)->
  FI P nt keep S aD w0 aA a w->(∀a' w',FI P nt keep S aD w0 aN a' w'->Q .normal a' w')->wpOps P bB.toArray Q (List.range' n r.length) a w
 |[],ss,n,aA,a,w,eK,aC,_,_,hF,hQ=>by simp only[G8,aH] at eK;subst eK;simp only[C2,aH] at aC;subst aC;exact hQ a w hF
 |op::r,ss,n,aA,a,w,eK,aC,yE,hk,hF,hQ=>by
  simp only[G8,bL,aH] at eK;obtain⟨s,hs,ss',AG,rfl⟩:=eK;simp only[C2,bL] at aC;obtain⟨aM,h1,h2⟩:=aC;obtain⟨hat,Co⟩:=Ib yE;have eN:=hk op (dC ..);have next:∀u w1,FI P nt keep S aD w0 aM (a.put op.dst u) w1->wpOps P bB.toArray Q (List.range' (n+1) r.length) (a.put op.dst u) w1:=fun u w1 h=>
   bA2 ho r ss' (n+1) aM _ w1 AG h2 Co (fun eX h'=>hk eX (dL _ h')) h hQ
  simp only[fY,GP];unfold Je at hs;split at hs
  ·rename_i g yC;simp only[bL,gY] at hs;obtain⟨p,hp,st,Ci,rfl⟩:=hs;unfold PE at hp;simp only[gY,bL] at hp;obtain⟨d,⟨og,hog,hd⟩,rfl⟩:=hp;simp only[mB,bL] at h1;obtain⟨v,hv,h1⟩:=h1;cases v<;>first |(cases h1;done)|skip
   rename_i u;have hu:=RL hF hv;have hy:yielded bB.toArray a.tmps g.1=some u:=by simp[yielded,hog,hd,hu]
   simp only at h1;by_cases wM:u=g.2
   ·rw[aY wM] at h1;have hw:Region.wanted op (yielded bB.toArray a.tmps)=true:=by
     unfold Region.wanted;rw[yC];simp[hy,wM]
    exact QO hat hw (Jh (oper:={op with guard:=none}) ho hF Ci h1 eN).2 next
   ·rw[aK wM] at h1;cases h1;have hw:¬Region.wanted op (yielded bB.toArray a.tmps)=true:=by
     unfold Region.wanted;rw[yC];simp[hy,wM]
    simp only[wpOps,CL,hat];rw[aK hw];exact next _ _ (hF.putO_ud eN)
  ·rename_i yC;have hw:Region.wanted op (yielded bB.toArray a.tmps)=true:=by simp[Region.wanted,yC]
   split at hs
   ·rename_i c x y d aO hd;simp only[bL,aH] at hs;obtain⟨sx,hsx,sy,hsy,rfl⟩:=hs;simp only[mB,bL] at h1;obtain⟨v,hv,h1⟩:=h1;cases v<;>first |(cases h1;done)|skip
    rename_i u;simp only[bL] at h1;obtain⟨z,hz,h1⟩:=h1;split at h1
    ·rename_i fC;cases h1;have hu:=RL hF hv;have gC:aP (dS w) w (if u=true then a.eval x else a.eval y) z:=by
      cases u with|true=>exact En hF hsx hz|false=>exact En hF hsy hz
     obtain⟨kD,hdd⟩:=eN d hd;refine QO (K:=fun u w1=>FI P nt keep S aD w0 (put' d z aA) (a.put op.dst u) w1) hat hw (Gk (u:=if u=true then a.eval x else a.eval y) (w1:=w) ?_ ?_) next
     have:a.eval (.tmp c)= .bool u:=eW hu;simp[execOp,aO,this,asBool];rw[hd];exact hF.put_flat kD hdd (cZ _ _) gC fC
    cases h1
   ·simp only[gY] at hs;obtain⟨st,Ci,rfl⟩:=hs;exact QO hat hw (Jh ho hF Ci h1 eN).2 next
def OU (ho:eL P o){id:Nat}{aJ:Array Oper}{ss:List St}(eK:n9 P aJ.toList=some ss)(aC:nM o ss aA=some aN)(lA:aJ.toList.all (fun o=>match o.dst with |some d=>decide (d<nt)|none=>true)=true)
  (hF:FI P nt keep S aD w0 aA a w){Q:Exit->Act->World->Prop}(hQ:∀a' w',FI P nt keep S aD w0 (dropE ((aJ.toList.flatMap fun o=>o.dst.toList).filter fun t=> !keep.contains t) aN) a' w'->Q .normal a' w'):
  (Code.region id aJ false).wp P Q a w:=by
 refine yX ?_;have dI:=hF.keys_mono (oO:=keep++(aJ.toList.flatMap fun o=>o.dst.toList)) fun n hn=>oG _ hn;have:=bA0 (Q:=Q) (bB:=aJ.toList) ho aJ.toList ss 0 aA a w eK aC (by simp) (fun op aO d hd=>⟨rK _ (sM.2 ⟨op,aO,by simp[hd]⟩),by
  have h:=eM.1 lA op aO;rw[hd] at h;simpa using h⟩) dI fun a' w' h=>hQ a' w' (h.dropE _ fun n hn hd=>by
   by_cases hk:n∈keep;exact hk;rcases iC.1 hn with h|h;exact h;exact absurd (vS.2 ⟨h,by simp[hk]⟩) hd)
 simpa[EY] using this
def dH7 (ho:eL P o){id:Nat}{aJ:Array Oper}{ss:List gX}(eK:G8 P aJ.toList aJ.toList=some ss)(aC:C2 o ss aA=some aN)(lA:aJ.toList.all (fun o=>match o.dst with |some d=>decide (d<nt)|none=>true)=true)
  (hF:FI P nt keep S aD w0 aA a w){Q:Exit->Act->World->Prop}(hQ:∀a' w',FI P nt keep S aD w0 (dropE ((aJ.toList.flatMap fun o=>o.dst.toList).filter fun t=> !keep.contains t) aN) a' w'->Q .normal a' w'):
  (Code.region id aJ false).wp P Q a w:=by
 refine yX ?_;have dI:=hF.keys_mono (oO:=keep++(aJ.toList.flatMap fun o=>o.dst.toList)) fun n hn=>oG _ hn;have:=bA2 (Q:=Q) (bB:=aJ.toList) ho aJ.toList ss 0 aA a w eK aC (by simp) (fun op aO d hd=>⟨rK _ (sM.2 ⟨op,aO,by simp[hd]⟩),by
  have h:=eM.1 lA op aO;rw[hd] at h;simpa using h⟩) dI fun a' w' h=>hQ a' w' (h.dropE _ fun n hn hd=>by
   by_cases hk:n∈keep;exact hk;rcases iC.1 hn with h|h;exact h;exact absurd (vS.2 ⟨h,by simp[hk]⟩) hd)
 simpa[EY] using this
end
end Go.VM
namespace Go.VM
open Go.RowKit
variable [cB]
section
variable {o:aU} {aA aT:aG}
def dW7 (cJ:cH aT){t:Nat}{v:V}{s:St}{e:aG}(he:e=put t v aA)(h2:bS o aT s=some (put t v aT)):tI o s e [t] aT:=by subst he;refine⟨_,h2,cJ.put _ _,fun n hn=> ?_,fun n hn=> ?_⟩;simp only[uQ] at hn;rw[kZ,kZ,aY hn,aY hn];simp only[uQ] at hn;rw[kZ,aK hn]
def V7 (cJ:cH aT){t:Nat}{ns:List Nat}{v:V}{s:St}{e:aG}(hw:eT aA aT (t::ns))(he:e=put t v aA)(h2:bS o aT s=some (put t v aT)):tI o s e (t::ns) aT:=by subst he;refine⟨_,h2,cJ.put _ _,fun n hn=> ?_,fun n hn=> ?_⟩;rw[kZ,kZ];split;rfl;exact hw n hn;rw[kZ,aK (fun(h:n=t)=>hn (by rw[h];exact dC ..))]
def dW5 (cJ:cH aT){sz s:Nat}{v:bF}{e:aG}(aC:bS o aA (.sto sz (.t s) v)=some e){f:List Nat×List Nat}(hf:iK o aA (.sto sz (.t s) v)=some f)(ha:eT aA aT f.1)(hw:eT aA aT f.2):tI o (.sto sz (.t s) v) e f.2 aT:=by
 simp only[iK] at hf;split at hf
 ·rename_i dP;have hfr:=KQ dP;have Ci:∀E,dK E v=dK aA v->freeze E [v]=E->bS o E (.sto sz (.t s) v)=(dK aA v).bind fun y=>if y.cells.length=sz/\y.cells.all V.cell then
    (aF s E).bind fun x=>match x with
    | .bx cs=>if cs.length=sz then some (put s (.bx y.cells) E) else none
    | .al m=>(aF m E).bind fun z=>match z with
     | .bx cs=>if cs.length=sz then some (put m (.bx y.cells) E) else none|_=>none
    | .pb m off n=>if n=sz then(aF m E).bind fun z=>match z with
      | .bx cs=>if off+sz<=cs.length then some (put m (.bx (splice cs off y.cells)) E) else none|_=>none
     else none
    | .pe m i off n=>if n=sz then(aF m E).bind fun z=>match z with
      | .ow k es=>(es[i]?).bind fun e=>if 0<sz/\off+sz<=e.cells.length then
        some (put m (.ow k (es.set i (Oe e off y))) E) else none
      |_=>none
     else none
    |_=>none
   else none:=by
   intro E h1 h2;simp only[bS,h1,h2];rfl
  rw[Ci aA rfl hfr] at aC;cases hy:dK aA v with
  |none=>rw[hy] at aC;cases aC
  |some y=>
   have FQ:=Ci aT;rw[hy] at aC FQ;simp only[aZ] at aC FQ;split at aC
   ·rename_i fN;rw[aY fN] at FQ;have agr:eT aA aT (oA aA v)->dK aT v=some y/\freeze aT [v]=aT:=fun h=>by
     refine⟨(Bm h).trans hy,KQ ?_⟩;simp only[lJ,O6 h];simpa[lJ] using dP
    cases hx:aF s aA with
    |none=>rw[hx] at aC;cases aC
    |some x=>
     rw[hx] at aC hf;simp only[aZ] at aC;have names:∀m,x.names=some m->f=(s::oA aA v,m::Og m aA)->dK aT v=some y/\freeze aT [v]=aT/\aF s aT=some x/\aF m aT=aF m aA:=by intro m _ hfm;subst hfm;obtain⟨h1,h2⟩:=agr fun n hn=>ha n (dL _ hn);exact⟨h1,h2,(ha s (dC ..)).trans hx,hw m (by simp)⟩
     cases x with
     |bx cs=>simp only[aH] at hf aC;subst hf;split at aC;rename_i hl;simp only[aH] at aC;obtain⟨h1,h2⟩:=agr ha;refine dW7 cJ aC.symm ?_;rw[FQ h1 h2,(hw s (by simp)).trans hx];simp only[aZ];rw[aY hl];cases aC
     |al m=>
      simp only[V.names,eB,aH] at hf;obtain⟨h1,h2,h3,h4⟩:=names m rfl hf.symm;subst hf;simp only at aC;cases hz:aF m aA with
      |none=>rw[hz] at aC;cases aC
      |some z=>
       rw[hz] at aC;simp only[aZ] at aC;cases z<;>first |(cases aC;done)|skip
       simp only at aC;split at aC;rename_i hl;simp only[aH] at aC;refine V7 cJ hw aC.symm ?_;rw[FQ h1 h2,h3];simp only[aZ,h4,hz];rw[aY hl];cases aC
     |pb m off n=>
      simp only[V.names,eB,aH] at hf;obtain⟨h1,h2,h3,h4⟩:=names m rfl hf.symm;subst hf;simp only at aC;split at aC
      ·rename_i hn;cases hz:aF m aA with
       |none=>rw[hz] at aC;cases aC
       |some z=>
        rw[hz] at aC;simp only[aZ] at aC;cases z<;>first |(cases aC;done)|skip
        simp only at aC;split at aC;rename_i hl;simp only[aH] at aC;refine V7 cJ hw aC.symm ?_;rw[FQ h1 h2,h3];simp only[aZ,h4,hz];rw[aY hn,aY hl];cases aC
      cases aC
     |pe m i off n=>
      simp only[V.names,eB,aH] at hf;obtain⟨h1,h2,h3,h4⟩:=names m rfl hf.symm;subst hf;simp only at aC;split at aC
      ·rename_i hn;cases hz:aF m aA with
       |none=>rw[hz] at aC;cases aC
       |some z=>
        rw[hz] at aC;simp only[aZ] at aC;cases z<;>first |(cases aC;done)|skip
        rename_i k es;simp only at aC;cases AJ:es[i]? with|none=>rw[AJ] at aC;cases aC|some ei=>rw[AJ] at aC;simp only[aZ] at aC;split at aC;rename_i hl;simp only[aH] at aC;refine V7 cJ hw aC.symm ?_;rw[FQ h1 h2,h3];simp only[aZ,h4,hz,AJ];rw[aY hn,aY hl];cases aC
      cases aC
     |_=>cases aC
   cases aC
 cases hf
def bK9 {n:Nat}(h:eT aA aT (sV aA n)):Al aT n=Al aA n:=by
 have h1:=h n (Gb n);have h2:∀m,nm aA n=some m->aF m aT=aF m aA:=fun m hm=>h m (OL hm);unfold Al;rw[h1];cases hx:aF n aA with
 |none=>rfl
 |some x=>
  unfold nm at h2;rw[hx] at h2;cases x<;>first
   |rfl
   |(simp only[h2 _ rfl];done)
def dX0 (cJ:cH aT){kt n:Nat}{k v:bF}{e:aG}(aC:bS o aA (.mset kt (.t n) k v)=some e){f:List Nat×List Nat}(hf:iK o aA (.mset kt (.t n) k v)=some f)(ha:eT aA aT f.1)(hw:eT aA aT f.2):tI o (.mset kt (.t n) k v) e f.2 aT:=by simp only[iK] at hf;cases hm:Al aA n with|none=>rw[hm] at hf;cases hf|some p=>rw[hm] at hf;simp only[eB,aH] at hf;subst hf;have h0:=bK9 (eT.left ha);have h1:=Bm (eT.left (eT.right ha));have h2:=Bm (eT.right (eT.right ha));rw[hm] at h0;simp only[bS,hm] at aC;cases hk:dK aA k with|none=>rw[hk] at aC;cases aC|some kv=>cases hv:dK aA v with|none=>rw[hk,hv] at aC;cases aC|some x=>rw[hk,hv] at aC;rw[hk] at h1;rw[hv] at h2;simp only[aZ] at aC;split at aC;rename_i hc;refine V7 cJ hw (uR aC).symm ?_;simp only[bS,h0,h1,h2,aZ];rw[aY hc];cases aC
def dX1 (hs:cH aA)(cJ:cH aT){d i n:Nat}{e:aG}(aC:bS o aA (.ext d i n)=some e){f:List Nat×List Nat}(hf:iK o aA (.ext d i n)=some f)(ha:eT aA aT f.1)(hw:eT aA aT f.2)(eO:NC aT f.2):tI o (.ext d i n) e f.2 aT:=by
 simp only[iK] at hf;simp only[bS] at aC;cases hx:aF n aA with
 |none=>rw[hx] at aC;cases aC
 |some x=>
  rw[hx] at aC hf;simp only[aZ] at aC;cases x<;>first |(cases aC;done)|skip
  rename_i vs;simp only at aC hf;cases hv:vs[i]? with
  |none=>rw[hv] at aC;cases aC
  |some y=>
   rw[hv] at aC hf;simp only[aZ,aH] at aC hf;split at hf
   case isFalse=>cases hf
   rename_i lY;simp only[D3] at lY;by_cases cA:y.isOwn=true
   case neg=>rw[aK cA] at aC hf;simp only[aH] at hf;subst hf;have mE:aF n aT=aF n aA:=ha n (by simp);refine IQ hs cJ eO aC.symm ?_;simp only[bS,mE,hx,aZ,hv];rw[aK cA]
   case pos=>rw[aY cA] at aC hf;simp only[aH] at hf;subst hf;subst aC;have mE:=hw n (by simp);have EE:=hw d (by simp);refine⟨put' d y (put n (.t (vs.set i .ud)) aT),by simp only[bS,mE,hx,aZ,hv];rw[aY cA],(cJ.put _ _).put' _ _,fun k hk=> ?_,fun k hk=> ?_⟩;rw[gJ (hs.put _ _),gJ (cJ.put _ _)];by_cases eN:k=d;rw[aY eN,aY eN];rw[aK eN,aK eN];simp only[kZ,aK (D2 lY),EE];have:aF k aT=aF k aA:=hw k hk;rw[this];rw[gJ (cJ.put _ _),aK (fun h=>hk (by simp[h]))];have mS:k≠n:=fun h=>hk (by simp[h]);simp only[kZ,aK (D2 lY),aK mS];cases aF d aT with|none=>rfl|some z=>simp only;cases hq:aF k aT with|none=>rfl|some z'=>simp only[aZ];split;rename_i hz;exact absurd (eO k d (by simp) (by simp[nm,hq,hz])) hk;rfl
def dW8 (hs:cH aA)(cJ:cH aT){d n:Nat}{ys:List V}(hx:aF n aA=some (.t ys)){e:aG}(aC:bS o aA (.mv d (.t n))=some e){f:List Nat×List Nat}(hf:iK o aA (.mv d (.t n))=some f)(hw:eT aA aT f.2)(eO:NC aT f.2):tI o (.mv d (.t n)) e f.2 aT:=by
 simp only[iK,hx] at hf;split at hf;rename_i lY;simp only[D3] at lY;simp only[aH] at hf;subst hf;simp only[bS,hx,aZ] at aC;have mE:=hw n (by simp);have EE:=hw d (by simp);rw[aK (D2 lY)] at aC;simp only[aH] at aC;subst aC;refine⟨put' d (.t ys) (put n .ud aT),by simp only[bS,mE,hx,aZ];rw[aK (D2 lY)],(cJ.put _ _).put' _ _,fun k hk=> ?_,fun k hk=> ?_⟩;rw[gJ (hs.put _ _),gJ (cJ.put _ _)];by_cases eN:k=d;rw[aY eN,aY eN];rw[aK eN,aK eN];simp only[kZ,aK (D2 lY),EE];have:aF k aT=aF k aA:=hw k hk;rw[this];rw[gJ (cJ.put _ _),aK (fun h=>hk (by simp[h]))];have mS:k≠n:=fun h=>hk (by simp[h]);simp only[kZ,aK (D2 lY),aK mS];cases aF d aT with|none=>rfl|some z=>simp only;cases hq:aF k aT with|none=>rfl|some z'=>simp only[aZ];split;rename_i hz;exact absurd (eO k d (by simp) (by simp[nm,hq,hz])) hk;rfl
 cases hf
def eT.one {s:bF}(h:eT aA aT (fH aA [s])):eT aA aT (oA aA s):=by simp only[fH] at h;exact h.left
def eT.ones {s:bF}(h:eT aA aT (oA aA s)):eT aA aT (fH aA [s]):=by simpa only[fH,A4] using h
def Rm:∀{xs:List bF} {aA aT:aG},(∀n,bF.t n∈xs->aF n aT=aF n aA)->∀k,aF k aT=aF k aA->aF k (freeze aT xs)=aF k (freeze aA xs)
 |[],_,_,_,_,hk=>hk
 |s::r,aA,aT,h,k,hk=>by
  have ho:owner aT s=owner aA s:=by cases s with|c v=>rfl|t n=>simp only[owner,h n (dC ..)]
  rw[I7,I7,ho];cases hm:owner aA s with
  |none=>exact Rm (fun n hn=>h n (dL _ hn)) k hk
  |some m=>
   have step:∀n,aF n aT=aF n aA->aF n (freeze1 m aT)=aF n (freeze1 m aA):=by intro n hn;rw[G',G'];split;rename_i he;subst he;rw[hn];exact hn
   exact Rm (fun n hn=>step n (h n (dL _ hn))) k (step k hk)
def bJ4 (m n:Nat):nm (freeze1 m aA) n=nm aA n:=by
 unfold nm;rw[G'];split
 ·rename_i he;subst he;cases hx:aF n aA with
  |none=>rfl
  |some x=>
   simp only[eB,aZ];split
   ·rename_i cA;cases x<;>first |rfl|(simp[V.isOwn] at cA;done)
   rfl
 rfl
def bA9 (m:Nat):∀xs:List bF,fH (freeze1 m aA) xs=fH aA xs
 |[]=>rfl|s::r=>by simp only[fH,bA9 m r];congr 1;cases s with|c v=>rfl|t n=>have:=bJ4 (aA:=aA) m n;unfold nm at this;simp only[oA,sV,this]
def Vk:∀{xs:List bF} {aA:aG} {k:Nat},k ∉ fH aA xs->aF k (freeze aA xs)=aF k aA
 |[],_,_,_=>rfl|s::r,aA,k,h=>by simp only[fH,iC,not_or] at h;rw[I7];cases hm:owner aA s with|none=>exact Vk h.2|some m=>simp only;rw[Vk (by rw[bA9];exact h.2),G',aK];rintro rfl;refine h.1 ?_;cases s with|c v=>cases hm|t n=>simp only[owner] at hm;cases hx:aF n aA with|none=>rw[hx] at hm;cases hm|some x=>rw[hx] at hm;simp only at hm;cases hn:x.names with|some m'=>rw[hn] at hm;simp only[aH] at hm;subst hm;exact OL (by simp[nm,hx,hn])|none=>rw[hn] at hm;simp only at hm;split at hm;simp only[aH] at hm;subst hm;exact Gb _;cases hm
def cH.freeze':∀{xs:List bF} {aA:aG},cH aA->cH (freeze aA xs)
 |[],_,h=>h|s::r,aA,h=>by rw[I7];cases owner aA s with|none=>exact cH.freeze' h|some m=>exact cH.freeze' (h.freeze1 m)
def bK5 {n:Nat}:∀{xs:List bF},bF.t n∈xs->n∈fH aA xs
 |s::r,h=>by simp only[fH,iC];rcases eP.1 h with rfl|h;exact .inl (Gb n);exact .inr (bK5 h)
def bM1 (hs:cH aA)(cJ:cH aT){d:Option Nat}{xs:List bF}{v:V}(hw:eT aA aT (d.toList++fH aA xs))(eO:NC aT (d.toList++fH aA xs)){s:St}{e:aG}(he:e=rC d v (freeze aA xs))(h2:bS o aT s=some (rC d v (freeze aT xs))):tI o s e (d.toList++fH aA xs) aT:=by
 subst he;have hag:∀n,bF.t n∈xs->aF n aT=aF n aA:=fun n hn=>hw n (rK _ (bK5 hn));have hsr:fH aT xs=fH aA xs:=by
  have key:∀ys:List bF,(∀n,bF.t n∈ys->aF n aT=aF n aA)->fH aT ys=fH aA ys:=by intro ys;induction ys with|nil=>intro _;rfl|cons s r ih=>intro h;simp only[fH,ih fun n hn=>h n (dL _ hn)];congr 1;cases s with|c v=>rfl|t n=>simp only[oA,sV,h n (dC ..)]
  exact key xs hag
 cases d with|none=>refine⟨_,h2,cJ.freeze',fun n hn=>Rm (xs:=xs) hag n (hw n hn),fun n hn=>Vk (fun h=>hn (rK _ (hsr▸h)))⟩|some d=>have hd:=Rm (xs:=xs) hag d (hw d (oG _ (by simp)));refine⟨_,h2,cJ.freeze'.put' _ _,fun n hn=> ?_,fun n hn=> ?_⟩;have mE:=Rm (xs:=xs) hag n (hw n hn);show aF n (put' d v (freeze aT xs))=aF n (put' d v (freeze aA xs));rw[gJ hs.freeze',gJ cJ.freeze',hd,mE];have lY:n≠d:=fun e=>hn (oG _ (by simp[e]));have hns:n ∉ fH aT xs:=fun h=>hn (rK _ (hsr▸h));have jQ:nm aT n≠some d:=fun h=>hn (eO n d (oG _ (by simp)) h);show aF n (put' d v (freeze aT xs))=_;rw[gJ cJ.freeze',aK lY,Vk hns];cases aF d (freeze aT xs) with|none=>rfl|some y=>simp only;cases hq:aF n aT with|none=>rfl|some z=>simp only[aZ];split;rename_i hz;exact absurd (by simp[nm,hq,hz]) jQ;rfl
def loc (hs:cH aA)(cJ:cH aT){s:St}{e:aG}(aC:bS o aA s=some e){f:List Nat×List Nat}(hf:iK o aA s=some f)(ha:eT aA aT f.1)(hw:eT aA aT f.2)(hc:NC aA f.2)(eO:NC aT f.2):tI o s e f.2 aT:=by
 have call:∀(d:Option Nat) (xs:List bF) (F:List V->Option V) (s:St),(∀E,bS o E s=(eC E xs).bind fun vs=>(F vs).bind fun r=>some (rC d r (if r.flat then E else freeze E xs)))->bS o aA s=some e->
   (if lJ aA xs then some (fH aA xs,d.toList) else MY ((eC aA xs).bind F) (fH aA xs,d.toList) ([],d.toList++fH aA xs))=some f->tI o s e f.2 aT:=by
  intro d xs F s fR aC hf;have reads:(lJ aA xs=true\/∃r,(eC aA xs).bind F=some r/\r.flat=true)->f=(fH aA xs,d.toList)->tI o s e f.2 aT:=by
   intro fN hf;subst hf;have hl:=Om (xs:=xs) ha;have h2:=fR aT;rw[fR aA] at aC;rw[hl] at h2;cases hv:eC aA xs with
   |none=>rw[hv] at aC;cases aC
   |some vs=>
    rw[hv] at aC h2 fN;simp only[aZ] at aC h2 fN;cases hr:F vs with
    |none=>rw[hr] at aC;cases aC
    |some r=>
     rw[hr] at aC h2 fN;simp only[aZ,aH] at aC h2 fN;have he:∀E,lJ E xs=lJ aA xs->(if r.flat=true then E else freeze E xs)=E:=by intro E hE;split;rfl;rename_i fC;rcases fN with h|⟨_,rfl,h⟩;exact KQ (hE.trans h);exact absurd h fC
     rw[he aA rfl] at aC;rw[he aT (VY ha)] at h2;exact dW6 hs cJ eO aC.symm h2
  split at hf;rename_i fN;exact reads (.inl fN) (uR hf).symm;unfold MY at hf;split at hf;rename_i r hr;simp only[aH] at hf;by_cases fC:r.flat=true;rw[aY fC] at hf;exact reads (.inr ⟨r,hr,fC⟩) hf.symm;rw[aK fC] at hf;subst hf;have hag:eT aA aT (fH aA xs):=fun n hn=>hw n (rK _ hn);have hl:=Om (xs:=xs) hag;have h2:=fR aT;rw[fR aA] at aC;rw[hl] at h2;cases hv:eC aA xs with|none=>rw[hv] at aC;cases aC|some vs=>rw[hv] at aC h2 hr;simp only[aZ] at aC h2 hr;rw[hr] at aC h2;simp only[aZ,aK fC,aH] at aC h2;exact bM1 hs cJ hw eO aC.symm h2
  cases hf
 have frz:∀(d:Nat) (xs:List bF) (F:List V->Option V) (s:St),(∀E,bS o E s=(eC E xs).bind fun vs=>(F vs).bind fun r=>some (put' d r (freeze E xs)))->bS o aA s=some e->
   (if lJ aA xs then some (fH aA xs,[d]) else some ([],d::fH aA xs))=some f->tI o s e f.2 aT:=by
  intro d xs F s fR aC hf;split at hf;rename_i dP;simp only[aH] at hf;subst hf;have hl:=Om (xs:=xs) ha;have h2:=fR aT;rw[fR aA] at aC;rw[hl,KQ ((VY ha).trans dP)] at h2;rw[KQ dP] at aC;cases hv:eC aA xs with|none=>rw[hv] at aC;cases aC|some vs=>rw[hv] at aC h2;simp only[aZ] at aC h2;cases hr:F vs with|none=>rw[hr] at aC;cases aC|some r=>rw[hr] at aC h2;simp only[aZ,aH] at aC h2;exact IQ hs cJ eO aC.symm h2
  simp only[aH] at hf;subst hf;have hag:eT aA aT (fH aA xs):=fun n hn=>hw n (dL _ hn);have hl:=Om (xs:=xs) hag;have h2:=fR aT;rw[fR aA] at aC;rw[hl] at h2;cases hv:eC aA xs with|none=>rw[hv] at aC;cases aC|some vs=>rw[hv] at aC h2;simp only[aZ] at aC h2;cases hr:F vs with|none=>rw[hr] at aC;cases aC|some r=>rw[hr] at aC h2;simp only[aZ,aH] at aC h2;exact bM1 (d:=some d) hs cJ hw eO aC.symm h2
 have still:∀(d:Nat) (F:aG->Option V) (s:St),(∀E,bS o E s=(F E).bind fun r=>some (put' d r E))->F aT=F aA->bS o aA s=some e->f.2=[d]->tI o s e f.2 aT:=by intro d F s fR hF aC hf;rw[hf] at eO⊢;have h2:=fR aT;rw[fR aA] at aC;rw[hF] at h2;cases hv:F aA with|none=>rw[hv] at aC;cases aC|some r=>rw[hv] at aC h2;simp only[aZ,aH] at aC h2;exact IQ hs cJ eO aC.symm h2
 cases s with
 |mv d s=>cases s with|c v=>simp only[iK,aH] at hf;exact still d (fun _=>some v) _ (fun E=>by simp only[bS,aZ]) rfl aC (by rw[<-hf])|t n=>cases hx:aF n aA with|none=>simp[bS,hx] at aC|some x=>by_cases ht:∃ys,x= .t ys;obtain⟨ys,rfl⟩:=ht;exact dW8 hs cJ hx aC hf hw eO;exact dW9 hs cJ hx (fun ys e=>ht ⟨ys,e⟩) aC hf ha eO
 |as d s=>cases s with|c v=>simp only[iK,aH] at hf;exact still d (fun _=>some v) _ (fun E=>by simp only[bS,aZ]) rfl aC (by rw[<-hf])|t n=>exact dX3 hs cJ aC hf ha hw hc eO
 |q d p xs=>
  simp only[iK,aH] at hf;have oQ:eT aA aT (fH aA xs):=by rw[<-hf] at ha;exact ha
  refine still d (fun E=>(eC E xs).bind fun vs=>(aS o p vs).bind fun r=>if r.flat1||p.loads then some r else none) _ (fun E=> ?_) ?_ aC (by rw[<-hf]);simp only[bS];cases eC E xs with|none=>rfl|some vs=>simp only[aZ];cases aS o p vs with|none=>rfl|some r=>simp only[aZ];split<;>rfl
  simp only[Om oQ]
 |ix d k s i=>
  simp only[iK,aH] at hf;have oQ:eT aA aT (fH aA [s,i]):=by rw[<-hf] at ha;exact ha
  simp only[fH,A4] at oQ;have h1:=Bm oQ.right;have h2:=Bm oQ.left;have h3:=O6 oQ.left;refine still d (fun E=>(dK E i).bind fun iv=>match iv with
   | .i _ j=>if 0<=j then(dK E s).bind fun sv=>match sv with
    | .l es=>(es[j.toNat]?).bind fun e=>if e.cells.length=k then
      (match owner E s with
      |some m=>if m=d then none else some (.pe m j.toNat 0 k)
      |none=>some (.r e.cells))
     else none
    |_=>none
    else none
   |_=>none) _ (fun E=> ?_) ?_ aC (by rw[<-hf])
  simp only[bS];cases dK E i with
  |none=>rfl
  |some iv=>
   simp only[aZ];cases iv<;>first |rfl|skip
   simp only;split;cases dK E s with
   |none=>rfl
   |some sv=>
    simp only[aZ];cases sv<;>first |rfl|skip
    rename_i j _ es;simp only;cases es[j.toNat]? with
    |none=>rfl
    |some ee=>
     simp only[aZ];split;cases owner E s with|none=>rfl|some m=>simp only;split<;>rfl
     rfl
   rfl
  simp only[h1,h2,h3]
 |fa d off n s=>
  simp only[iK,aH] at hf;have oQ:eT aA aT (oA aA s):=by rw[<-hf] at ha;exact ha
  cases s with
  |c v=>simp only[bS] at aC;cases aC
  |t s=>
   have fM:=oQ s (Gb s);have hs2':∀m,nm aA s=some m->aF m aT=aF m aA:=fun m hm=>oQ m (OL hm);refine still d (fun E=>(aF s E).bind fun x=>match x with
    | .bx cs=>if s≠d/\off+n<=cs.length then some (.pb s off n) else none
    | .al m=>(aF m E).bind fun y=>match y with
     | .bx cs=>if m≠d/\off+n<=cs.length then some (.pb m off n) else none|_=>none
    | .pe m i a sz=>if m≠d/\off+n<=sz then some (.pe m i (a+off) n) else none| .pb m a sz=>if m≠d/\off+n<=sz then some (.pb m (a+off) n) else none| .r cs=>(sub cs off n).bind fun r=>some (.r r)
    |_=>none) _ (fun E=> ?_) ?_ aC (by rw[<-hf])
   simp only[bS];cases aF s E with
   |none=>rfl
   |some x=>
    simp only[aZ];cases x<;>first
     |rfl
     |(simp only;split<;>rfl)
     |skip
    rename_i cs;simp only;cases sub cs off n<;>rfl;rename_i m;simp only;cases aF m E with|none=>rfl|some y=>simp only[aZ];cases y<;>first |rfl|(simp only;split<;>rfl)
   simp only[fM];cases hx:aF s aA with
   |none=>rfl
   |some x=>
    simp only[aZ];cases x<;>first |rfl|skip
    rename_i m;simp only;rw[hs2' m (by simp[nm,hx,V.names])]
 |sto sz s v=>cases s with|c _=>simp[bS] at aC|t s=>exact dW5 cJ aC hf ha hw
 |app d e1 k b s y=>
  cases s with
  |c v=>
   simp only[iK,aH] at hf;have oQ:eT aA aT (oA aA y):=by rw[<-hf] at ha;exact ha
   have h1:=Bm oQ;refine still d (fun E=>(dK E y).bind fun yv=>match yv with
    | .l ys=>if ys.all (fun x=>x.cells.length==k) then(match v with
     | .ow e' []=>if e'=e1/\ys.length*b<=140737488355328 then some (.ow e1 ys) else none
     |_=>none) else none
    |_=>none) _ (fun E=> ?_) ?_ aC (by rw[<-hf])
   simp only[bS];cases dK E y with
   |none=>rfl
   |some yv=>
    simp only[aZ];cases yv<;>first |rfl|skip
    simp only;split;cases v<;>first |rfl|skip
    rename_i e' es;cases es<;>first |rfl|skip
    simp only;split<;>rfl;rfl
   simp only[h1]
  |t n=>exact dX4 hs cJ aC hf ha hw hc eO
 |call d g xs=>exact call d xs (o g) _ (fun E=>by simp only[bS]) aC (by simpa only[iK] using hf)|callv d xs=>exact call d xs (AX o) _ (fun E=>by simp only[bS]) aC (by simpa only[iK] using hf)|ext d i n=>exact dX1 hs cJ aC hf ha hw eO
 |bld d z ps xs=>exact frz d xs (fun vs=>(yM z ps vs).map .a) _ (fun E=>by
   simp only[bS];cases eC E xs with
   |none=>rfl
   |some vs=>simp only[aZ];cases yM z ps vs<;>rfl) aC (by simpa only[iK] using hf)
 |bsl d e1 k xs=>exact frz d xs (fun vs=>if vs.all (fun x=>x.cells.length==k&&x.cells.all V.cell) then some (.ow e1 vs) else none) _ (fun E=>by
   simp only[bS];cases eC E xs with
   |none=>rfl
   |some vs=>simp only[aZ];split<;>rfl) aC (by simpa only[iK] using hf)
 |box d s=>
  simp only[iK] at hf;split at hf;rename_i dP;simp only[aH] at hf;have oQ:eT aA aT (oA aA s):=by rw[<-hf] at ha;exact ha
  have hno2:lJ aT [s]=true:=(VY oQ.ones).trans dP;have h1:=Bm oQ;have key:∀E,lJ E [s]=true->bS o E (.box d s)=(dK E s).bind fun v=>(if v.cells.all V.cell then some (V.bx v.cells) else none).bind fun r=>some (put' d r E):=by intro E hE;simp only[bS,KQ hE];cases dK E s with|none=>rfl|some v=>simp only[aZ];split<;>rfl
  have e1:=key aA dP;have e2:=key aT hno2;rw[aC] at e1;rw[h1] at e2;cases hv:dK aA s with
  |none=>rw[hv] at e1;cases e1
  |some v=>
   rw[hv] at e1 e2;simp only[aZ] at e1 e2;split at e1;rename_i eG;rw[aY eG] at e2;simp only[aZ,aH] at e1 e2;have hf2:f.2=[d]:=by rw[<-hf]
   rw[hf2] at eO⊢;exact IQ hs cJ eO e1 e2;cases e1
  cases hf
 |alo d z=>simp only[iK,aH] at hf;exact still d (fun _=>some (.bx z)) _ (fun E=>by simp only[bS,aZ]) rfl aC (by rw[<-hf])|mkf d fn n xs=>exact frz d xs (fun vs=>some (.f fn (vs.take n) (vs.drop n))) _ (fun E=>by simp only[bS,aZ]) aC (by simpa only[iK] using hf)|slc d k lo hi xs=>exact frz d xs (aS o (.slc k lo hi)) _ (fun E=>by simp only[bS]) aC (by simpa only[iK] using hf)
 |mks d e1 b z n=>
  simp only[iK,aH] at hf;have oQ:eT aA aT (oA aA n):=by rw[<-hf] at ha;exact ha
  have h1:=Bm oQ;refine still d (fun E=>(dK E n).bind fun v=>match v with
   | .i .i64 j=>if 0<=j/\j*b<=140737488355328 then some (.ow e1 (List.replicate j.toNat z)) else none
   |_=>none) _ (fun E=> ?_) (by simp only[h1]) aC (by rw[<-hf])
  simp only[bS];cases dK E n with
  |none=>rfl
  |some v=>
   simp only[aZ];cases v<;>first |rfl|skip
   rename_i kk j;cases kk<;>first |rfl|(simp only;split<;>rfl)
 |mkm d=>simp[iK] at hf|cpy d e k s y=>simp[iK] at hf
 |callm d f mu s xs=>cases d with|none=>simp[iK] at hf|some d=>cases s with|c v=>simp[iK] at hf|t n=>exact dX2 hs cJ aC hf ha hw hc eO
 |mget d kt z s k=>
  cases s with
  |c v=>simp[iK] at hf
  |t n=>
   simp only[iK,aH] at hf;have oQ:eT aA aT (sV aA n++oA aA k):=by rw[<-hf] at ha;exact ha
   have h1:=Bm oQ.right;have h2:=bK9 oQ.left;refine still d (fun E=>(dK E k).bind fun kv=>(Al E n).bind fun p=>if(iA kt kv&&p.2.1.all (iA kt)&&((f9 kv p.2.1 p.2.2).getD z).cell&&((f9 kv p.2.1 p.2.2).getD z).uniq)=true then some ((f9 kv p.2.1 p.2.2).getD z) else none) _ (fun E=> ?_) (by simp only[h1,h2]) aC (by rw[<-hf]);simp only[bS];cases dK E k with|none=>rfl|some v=>simp only[aZ];cases Al E n with|none=>rfl|some p=>simp only[aZ];split<;>rfl
 |mset kt s k v=>cases s with|c v=>simp[iK] at hf|t n=>exact dX0 cJ aC hf ha hw
 |s2b d e1 s=>
  simp only[iK,aH] at hf;have oQ:eT aA aT (oA aA s):=by rw[<-hf] at ha;exact ha
  have h1:=Bm oQ;refine still d (fun E=>(dK E s).bind fun v=>match v with
   | .s x=>some (.l (x.map fun c=> .i .u8 c.toNat))
   |_=>none) _ (fun E=> ?_) (by simp only[h1]) aC (by rw[<-hf])
  simp only[bS];cases dK E s with|none=>rfl|some v=>simp only[aZ];cases v<;>rfl
end
end Go.VM
namespace Go.VM
open Go.RowKit
variable [cB]
section
variable {o:aU} {aA aT:aG}
def dR4 {aA:aG}(h:∀n,aF n aA=none):aA=[]:=by cases aA with|nil=>rfl|cons p r=>have:=h p.1;simp[aF] at this
def bV2:∀{aA aT:aG},cH aA->cH aT->(∀n,aF n aA=aF n aT)->aA=aT
 |[],aT,_,_,h=>(dR4 fun n=>(h n).symm.trans rfl).symm|p::r,[],_,_,h=>by have:=h p.1;simp[aF] at this
 |(n,x)::r,(m,y)::q,h1,h2,h=>by
  obtain⟨a1,a2⟩:=vT.1 h1;obtain⟨b1,b2⟩:=vT.1 h2;have hn:∀{r:aG} {n:Nat},(∀p∈r,n<p.1)->∀k,k<=n->aF k r=none:=by intro r n hr k hk;cases hq:aF k r with|none=>rfl|some z=>have:=hr _ (Fc hq);simp at this;omega
  have jQ:n=m:=by have e1:=h n;have e2:=h m;simp only[aF,jA] at e1 e2;by_cases jQ:n=m;exact jQ;rw[aK jQ] at e1;rw[aK (D2 jQ)] at e2;have g1:=b1 _ (Fc e1.symm);have g2:=a1 _ (Fc e2);simp at g1 g2;omega
  subst jQ;have hx:=h n;simp only[aF,jA,aH] at hx;subst hx;congr 1;refine bV2 a2 b2 fun k=> ?_;by_cases hk:k=n;subst hk;rw[hn a1 k (dD _),hn b1 k (dD _)];have:=h k;simpa only[aF,aK hk] using this
def JE (o:aU)(s:gX)(e:aG)(W:List Nat)(aT:aG):Prop:=∃e2,mB o aT s=some e2/\cH e2/\(∀n∈W,aF n e2=aF n e)/\∀n,n ∉ W->aF n e2=aF n aT
def JE.as {s:gX}{st:St}{e:aG}{W:List Nat}(h:mB o aT s=bS o aT st)(hl:tI o st e W aT):JE o s e W aT:=by obtain⟨e2,h1,h2⟩:=hl;exact⟨e2,h.trans h1,h2⟩
def dX5 (hs:cH aA)(cJ:cH aT){s:gX}{e:aG}(aC:mB o aA s=some e){f:List Nat×List Nat}(hf:HA o aA s=some f)(ha:eT aA aT f.1)(hw:eT aA aT f.2)(hc:NC aA f.2)(eO:NC aT f.2):JE o s e f.2 aT:=by
 cases s with
 |s st=>exact JE.as rfl (loc hs cJ aC hf ha hw hc eO)
 |gd c t d st=>
  simp only[mB,bL] at aC;obtain⟨v,hv,aC⟩:=aC;simp only[HA,hv,aZ] at hf;cases v<;>first |(cases aC;done)|skip
  rename_i u;simp only at aC hf;by_cases wM:u=t;rw[aY wM] at aC hf;simp only[gY] at hf;obtain⟨g,hg,rfl⟩:=hf;have h2:iH aT c=some (.b u):=(V6 (eT.left ha)).trans hv;refine JE.as ?_ (loc (f:=g) hs cJ aC hg (eT.right ha) hw hc eO);simp[mB,h2,wM];rw[aK wM] at aC hf;simp only[aH] at aC hf;subst hf;have h2:iH aT c=some (.b u):=(V6 ha).trans hv;have h3:mB o aT (.gd c t d st)=some (rC d .ud aT):=by simp[mB,h2,wM]
  cases d with|none=>simp only[rC] at aC h3;subst aC;exact⟨_,h3,cJ,fun n hn=>by simp at hn,fun n _=>rfl⟩|some d=>exact JE.as (h3.trans rfl) (IQ (s:= .mv d (.c .ud)) hs cJ eO aC.symm rfl)
 |pick d c a b=>
  simp only[mB,bL] at aC;obtain⟨v,hv,aC⟩:=aC;simp only[HA,hv,aZ] at hf;cases v<;>first |(cases aC;done)|skip
  rename_i u;simp only[bL] at aC;obtain⟨r,hr,aC⟩:=aC;simp only[aH] at hf;subst hf;split at aC;rename_i fC;simp only[aH] at aC;have h2:iH aT c=some (.b u):=(V6 (eT.left ha)).trans hv;have h4:(if u=true then dK aT a else dK aT b)=some r:=by rw[<-hr];have:=Bm (eT.right ha);cases u<;>simpa using this
  refine JE.as ?_ (IQ (s:= .mv d (.c r)) hs cJ eO aC.symm rfl);simp[mB,h2,h4,fC,bS];cases aC
structure gE (o:aU) (s:gX) (aA e:aG) (f:List Nat×List Nat):Prop where
 step:mB o aA s=some e
 srt:cH e
 same:∀n,n ∉ f.2->aF n e=aF n aA
 new:∀n∈f.2,∀m,nm e n=some m->m∈f.1\/m∈f.2
 old:∀n∈f.2,∀m,nm aA n=some m->m∈f.1\/m∈f.2
 nc:NC aA f.2
 loc:∀aT,cH aT->eT aA aT f.1->eT aA aT f.2->NC aT f.2->JE o s e f.2 aT
def bE8 (hs:cH aA){s:gX}{e:aG}(aC:mB o aA s=some e){f:List Nat×List Nat}(hf:HA o aA s=some f)(hr:OW aA e f=true):gE o s aA e f:=by
 simp only[OW,fA] at hr;obtain⟨h1,h2,h3⟩:=hr;have As:∀(E:aG),f.2.all (fun n=>match(aF n E).bind V.names with |some m=>f.1.contains m||f.2.contains m|none=>true)=true->∀n∈f.2,∀m,nm E n=some m->m∈f.1\/m∈f.2:=by intro E hE n hn m hm;have:=eM.1 hE n hn;unfold nm at hm;rw[hm] at this;simpa using this
 have rF:NC aA f.2:=by intro n m hm hn;unfold nm at hn;cases hq:aF n aA with|none=>rw[hq] at hn;cases hn|some x=>rw[hq] at hn;simp only[aZ] at hn;have:=eM.1 h3 (n,x) (Fc hq);simp only[hn] at this;simpa[hm] using this
 have hloc:∀aT,cH aT->eT aA aT f.1->eT aA aT f.2->NC aT f.2->JE o s e f.2 aT:=fun aT g1 g2 g3 g4=>dX5 hs g1 aC hf g2 g3 rF g4;obtain⟨e2,k1,k2,_,k4⟩:=hloc aA hs (fun _ _=>rfl) (fun _ _=>rfl) rF;rw[aC] at k1;cases k1;exact⟨aC,k2,k4,As e h2,As aA h1,rF,hloc⟩
def Ky (f g:List Nat×List Nat):Prop:=(∀n∈f.2,n ∉ g.1/\n ∉ g.2)/\∀n∈g.2,n ∉ f.1
def fB6 {f g:List Nat×List Nat}(h:Vy f g=true):Ky f g:=by simp only[Vy,fA] at h;refine⟨fun n hn=> ?_,fun n hn=> ?_⟩;have:=eM.1 h.1 n hn;simpa using this;have:=eM.1 h.2 n hn;simpa using this
def swap (hs:cH aA){s1 s2:gX}{e1 e2:aG}{f1 f2:List Nat×List Nat}(r1:gE o s1 aA e1 f1)(r2:gE o s2 e1 e2 f2)(ha:Ky f1 f2):∃e,gE o s2 aA e f2/\gE o s1 e e2 f1:=by
 have w12:∀n,n∈f2.1\/n∈f2.2->n ∉ f1.2:=fun n hn h=>by rcases hn with hn|hn;exact(ha.1 n h).1 hn;exact(ha.1 n h).2 hn
 have w21:∀n,n∈f1.1\/n∈f1.2->n ∉ f2.2:=fun n hn h=>by rcases hn with hn|hn;exact ha.2 n h hn;exact(ha.1 n hn).2 h
 have Oy:NC aA f2.2:=by intro n m hm hn;by_cases h1:n∈f1.2;have:=r1.old n h1 m hn;exact absurd hm (w21 m this);refine r2.nc n m hm ?_;unfold nm at hn⊢;rw[r1.same n h1];exact hn
 obtain⟨e,k1,k2,k3,k4⟩:=r2.loc aA hs (fun n hn=>(r1.same n (w12 n (.inl hn))).symm) (fun n hn=>(r1.same n (w12 n (.inr hn))).symm) Oy;have hnc1:NC e f1.2:=by
  intro n m hm hn;by_cases h2:n∈f2.2;have h3:nm e2 n=some m:=by unfold nm at hn⊢;rw[<-k3 n h2];exact hn
  exact absurd hm (w12 m (r2.new n h2 m h3));refine r1.nc n m hm ?_;unfold nm at hn⊢;rw[<-k4 n h2];exact hn
 obtain⟨e',g1,g2,g3,g4⟩:=r1.loc e k2 (fun n hn=>k4 n (w21 n (.inl hn))) (fun n hn=>k4 n (w21 n (.inr hn))) hnc1;have he:e'=e2:=by refine bV2 g2 r2.srt fun n=> ?_;by_cases h1:n∈f1.2;rw[g3 n h1,r2.same n (w21 n (.inr h1))];rw[g4 n h1];by_cases h2:n∈f2.2;rw[k3 n h2];rw[k4 n h2,r2.same n h2,r1.same n h1]
 subst he;refine⟨e,⟨k1,k2,k4,fun n hn m hm=> ?_,fun n hn m hm=> ?_,Oy,fun aT q1 q2 q3 q4=> ?_⟩,⟨g1,g2,g4,fun n hn m hm=> ?_,fun n hn m hm=> ?_,hnc1,fun aT q1 q2 q3 q4=> ?_⟩⟩;refine r2.new n hn m ?_;unfold nm at hm⊢;rw[<-k3 n hn];exact hm;refine r2.old n hn m ?_;unfold nm at hm⊢;rw[r1.same n (w12 n (.inr hn))];exact hm;obtain⟨x,h1,h2,h3,h4⟩:=r2.loc aT q1 (fun n hn=>(q2 n hn).trans (r1.same n (w12 n (.inl hn))).symm) (fun n hn=>(q3 n hn).trans (r1.same n (w12 n (.inr hn))).symm) q4;exact⟨x,h1,h2,fun n hn=>(h3 n hn).trans (k3 n hn).symm,h4⟩;refine r1.new n hn m ?_;unfold nm at hm⊢;rw[<-g3 n hn];exact hm;refine r1.old n hn m ?_;unfold nm at hm⊢;rw[<-k4 n (w21 n (.inr hn))];exact hm;obtain⟨x,h1,h2,h3,h4⟩:=r1.loc aT q1 (fun n hn=>(q2 n hn).trans (k4 n (w21 n (.inl hn)))) (fun n hn=>(q3 n hn).trans (k4 n (w21 n (.inr hn)))) q4;exact⟨x,h1,h2,fun n hn=>(h3 n hn).trans (g3 n hn).symm,h4⟩
abbrev DV:=Nat×gX×(List Nat×List Nat)
def NR (o:aU):List DV->aG->aG->Prop
 |[],aA,e=>aA=e|x::r,aA,e=>∃e1,gE o x.2.1 aA e1 x.2.2/\NR o r e1 e
def bZ4 {x:DV}{e:aG}:∀{l r:List DV} {aA:aG},cH aA->NR o (l++x::r) aA e->(∀y∈l,Ky y.2.2 x.2.2)->∃e1,gE o x.2.1 aA e1 x.2.2/\NR o (l++r) e1 e
 |[],r,aA,_,h,_=>h|y::l,r,aA,hs,h,ha=>by obtain⟨e1,h1,h2⟩:=h;obtain⟨e2,h3,h4⟩:=bZ4 h1.srt h2 fun z hz=>ha z (dL _ hz);obtain⟨e3,h5,h6⟩:=swap hs h1 h3 (ha y (dC ..));exact⟨e3,h5,e2,h6,h4⟩
def rY:Nat->List gX->List (List Nat×List Nat)->List DV
 |i,s::ss,f::fs=>(i,s,f)::rY (i+1) ss fs|_,_,_=>[]
def bC7:∀{ss:List gX} {aA e:aG} {fs:List (List Nat×List Nat)} (i:Nat),cH aA->Ep o ss aA=some (e,fs)->NR o (rY i ss fs) aA e/\fs.length=ss.length
 |[],aA,e,fs,i,_,h=>by simp only[Ep,aH,cM] at h;obtain⟨rfl,rfl⟩:=h;exact⟨rfl,rfl⟩
 |s::ss,aA,e,fs,i,hs,h=>by simp only[Ep,bL] at h;obtain⟨e1,h1,f,h2,h3⟩:=h;split at h3;rename_i hr;simp only[bL,aH,cM] at h3;obtain⟨⟨e',fs'⟩,h4,rfl,rfl⟩:=h3;have EA:=bE8 hs h1 h2 hr;obtain⟨h5,h6⟩:=bC7 (i+1) EA.srt h4;exact⟨⟨e1,EA,h5⟩,by simp[h6]⟩;cases h3
def Oj:∀{ss:List gX} {fs:List (List Nat×List Nat)} {i:Nat} {x:DV},x∈rY i ss fs->i<=x.1/\ss[x.1 - i]? =some x.2.1
 |[],fs,i,x,h=>by cases fs<;>simp[rY] at h|s::ss,[],i,x,h=>by simp[rY] at h|s::ss,f::fs,i,x,h=>by simp only[rY] at h;rcases eP.1 h with rfl|h;exact⟨dD _,by simp⟩;obtain⟨h1,h2⟩:=Oj h;refine⟨by omega,?_⟩;rw[show x.1 - i=(x.1 - (i+1))+1 from by omega,HY];exact h2
def Zt:∀{ss:List gX} {fs:List (List Nat×List Nat)} {i:Nat},fs.length=ss.length->∀k,i<=k->k<i+ss.length->∃x∈rY i ss fs,x.1=k
 |[],fs,i,_,k,h1,h2=>by simp at h2;omega|s::ss,[],i,h,_,_,_=>by simp at h|s::ss,f::fs,i,h,k,h1,h2=>by simp only[rY];by_cases hk:k=i;exact⟨_,dC ..,hk.symm⟩;obtain⟨x,hx,hxk⟩:=Zt (ss:=ss) (fs:=fs) (i:=i+1) (by simpa using h) k (by omega) (by simp at h2;omega);exact⟨x,dL _ hx,hxk⟩
def XL (af:List (List Nat))(x y:DV):Prop:=x.1<y.1/\∀a,af[y.1]? =some a->x.1∈a\/Ky x.2.2 y.2.2
def bQ7 {AF:List (List Nat)}{f:List Nat×List Nat}{i:Nat}:∀{ss:List gX} {as:List (List Nat)} {fs:List (List Nat×List Nat)} {k:Nat},AF.drop k=as->Ot f i as fs=true->∀x∈rY k ss fs,∀a,AF[x.1]? =some a->i∈a\/Ky f x.2.2
 |[],as,fs,k,_,_,x,hx,_,_=>by cases fs<;>simp[rY] at hx|s::ss,as,[],k,_,_,x,hx,_,_=>by simp[rY] at hx
 |s::ss,as,g::fs,k,hd,h,x,hx,a,ha=>by
  simp only[rY] at hx;rcases eP.1 hx with rfl|hx;simp only at ha;have:as[0]? =some a:=by rw[<-hd,xD];simpa using ha
  cases as with|nil=>simp at this|cons a' as=>simp at this;subst this;simp only[Ot,fA,tK] at h;rcases h.1 with h|h;exact .inl (by simpa using h);exact .inr (fB6 h)
  cases as with
  |nil=>
   have h1:=Oj hx;have h2:=(fE.1 ha).1;have:AF.length<=k:=by simpa using hd
   omega
  |cons a' as=>simp only[Ot,fA] at h;obtain⟨_,gU⟩:=Ib hd;exact bQ7 gU h.2 x hx a ha
def Z' {AF:List (List Nat)}:∀{ss:List gX} {as:List (List Nat)} {fs:List (List Nat×List Nat)} {k:Nat},AF.drop k=as->MC k as fs=true->(rY k ss fs).Pairwise (XL AF)
 |[],as,fs,k,_,_=>by cases fs<;>simp[rY]|s::ss,as,[],k,_,_=>by simp[rY]
 |s::ss,as,f::fs,k,hd,h=>by
  simp only[rY];cases as with
  |nil=>
   have hl:AF.length<=k:=by simpa using hd
   have hpw:∀{ss:List gX} {fs:List (List Nat×List Nat)} {k:Nat},AF.length<=k->(rY k ss fs).Pairwise (XL AF):=by intro ss;induction ss with|nil=>intro fs k _;cases fs<;>simp[rY]|cons s ss ih=>intro fs k hk;cases fs with|nil=>simp[rY]|cons f fs=>simp only[rY];refine vT.2 ⟨fun y hy=> ?_,ih (by omega)⟩;obtain⟨h1,_⟩:=Oj hy;exact⟨h1,fun a ha=>by have:=(fE.1 ha).1;omega⟩
   exact hpw (ss:=s::ss) (fs:=f::fs) hl
  |cons a as=>simp only[MC,fA] at h;obtain⟨_,gU⟩:=Ib hd;refine vT.2 ⟨fun y hy=> ?_,Z' gU h.2⟩;obtain⟨h1,_⟩:=Oj hy;exact⟨h1,fun a ha=>bQ7 gU h.1 y hy a ha⟩
end
section
variable {P:Program} {nt:Nat} {keep:List Nat} {S:Nat->Prop} {aD:Nat} {w0:World} {aA aN:aG} {a:Act} {w:World} {o:aU}
def Xw:∀{r:List Oper} {ss:List St},n9 P r=some ss->ss.length=r.length/\∀(i:Nat) op,r[i]? =some op->∃s,ss[i]? =some s/\Ht P op=some s
 |[],ss,h=>by simp only[n9,aH] at h;subst h;simp|op::r,ss,h=>by simp only[n9,bL,aH] at h;obtain⟨s,hs,ss',AG,rfl⟩:=h;obtain⟨h1,h2⟩:=Xw AG;refine⟨by simp[h1],fun i eX hi=> ?_⟩;cases i with|zero=>simp at hi;subst hi;exact⟨s,rfl,hs⟩|succ i=>simpa using h2 i eX (by simpa using hi)
def WT {L M:Nat->Prop}{af:List (List Nat)}(hLM:∀i,L i->M i)(h:∀i,M i->∀a,af[i]? =some a->∀j∈a,L j):∀i,M i->∀a,(Mr af)[i]? =some a->∀j∈a,L j:=by intro i hi a ha j hj;unfold Mr at ha;rw[kG] at ha;obtain⟨b,hb,rfl⟩:=gY.1 ha;simp only[vS,nH,tK,List.contains_iff_mem,List.any_eq_true] at hj;rcases hj.2 with h1|⟨k,hk,hj⟩;exact h i hi b hb j h1;have hLk:=h i hi b hb k hk;cases hc:af[k]? with|none=>rw[EX,hc] at hj;simp at hj|some c=>rw[EX,hc] at hj;exact h k (hLM k hLk) c hc j hj
def eW1 {L M:Nat->Prop}{af:List (List Nat)}(hLM:∀i,L i->M i)(h:∀i,M i->∀a,af[i]? =some a->∀j∈a,L j):∀i,M i->∀a,(EP af)[i]? =some a->∀j∈a,L j:=WT hLM (WT hLM (WT hLM (WT hLM h)))
def cY4 {bB:List Oper}{ss:List gX}{Q:Exit->Act->World->Prop}(bT:ss.length=bB.length)(r9:∀(i:Nat) op s,bB[i]? =some op->ss[i]? =some s->∀aA e a w,FI P nt keep S aD w0 aA a w->mB o aA s=some e->(Region.wanted op (yielded bB.toArray a.tmps)=true/\f8 P ((execOp a.eval op).run P w) fun u w1=>FI P nt keep S aD w0 e (a.put op.dst u) w1)\/(Region.wanted op (yielded bB.toArray a.tmps)=false/\FI P nt keep S aD w0 e (a.put op.dst undef) w))(pG:∀(i:Nat) op,bB.toArray[i]? =some op->∀j∈eD op,j<i):
  ∀(fuel:Nat) (listed:Array Bool) (rem:List DV) (aA:aG) (a:Act) (w:World),listed.size=bB.length->zB listed<=fuel->(∀x∈rem,¬bU listed x.1/\ss[x.1]? =some x.2.1)->(∀i,i<bB.length->bU listed i\/∃x∈rem,x.1=i)->
   (∀i,bU listed i->∀a,(bB.map eD)[i]? =some a->∀j∈a,bU listed j)->rem.Pairwise (XL (EP (bB.map eD)))->NR o rem aA aN->FI P nt keep S aD w0 aA a w->(∀a' w',FI P nt keep S aD w0 aN a' w'->Q .normal a' w')->wpAny P .any bB.toArray Q fuel listed a w:=by
 have fin:∀(listed:Array Bool) (rem:List DV) (aA:aG) (a:Act) (w:World),(∀i,i<bB.length->bU listed i)->(∀x∈rem,¬bU listed x.1/\ss[x.1]? =some x.2.1)->NR o rem aA aN->FI P nt keep S aD w0 aA a w->(∀a' w',FI P nt keep S aD w0 aN a' w'->Q .normal a' w')->Q .normal a w:=by intro listed rem aA a w eG zF bY hF hQ;cases rem with|nil=>simp only[NR] at bY;subst bY;exact hQ a w hF|cons x r=>obtain⟨h1,h2⟩:=zF x (dC ..);have:=(fE.1 h2).1;exact absurd (eG x.1 (by omega)) h1
 intro fuel;induction fuel with
 |zero=>intro listed rem aA a w hs oP zF MQ cK hpw bY hF hQ;have eG:∀i,i<bB.length->bU listed i:=fun i hi=>XF (by omega) i (by omega);refine⟨?_,fin listed rem aA a w eG zF bY hF hQ⟩;cases hr:Region.ready .any bB.toArray listed with|nil=>rfl|cons i r=>obtain⟨op,aO,bM,_⟩:=Jy (by simpa using hs) (show i∈Region.ready .any bB.toArray listed by rw[hr];exact dC ..);exact absurd (eG i (by have:=(j6.1 aO).1;simpa using this)) bM
 |succ fuel ih=>
  intro listed rem aA a w hs oP zF MQ cK hpw bY hF hQ;refine⟨fun hr=>fin listed rem aA a w (fun i hi=>VX (by simpa using hs) pG hr i (by simpa using hi)) zF bY hF hQ,fun i hi=> ?_⟩;obtain⟨op,aO,bM,fV⟩:=Jy (by simpa using hs) hi;have kB:bB[i]? =some op:=by simpa using aO
  have iJ:i<bB.length:=(fE.1 kB).1;have his:i<listed.size:=by omega
  obtain⟨x,hx,FN⟩:=(MQ i iJ).resolve_left bM;obtain⟨l,r,rfl⟩:=List.append_of_mem hx;obtain⟨eF,R0,hpc⟩:=QJ.1 hpw;have hap:∀y∈l,Ky y.2.2 x.2.2:=by
   intro y hy;have hsep:=hpc y hy x (dC ..);have Vh:(EP (bB.map eD)).length=bB.length:=by simp[EP,Mr]
   have haf:(EP (bB.map eD))[x.1]? =some ((EP (bB.map eD))[x.1]'(by omega)):=eI _;rcases hsep.2 _ haf with h|h;refine absurd (eW1 (L:=bU listed) (M:=fun k=>bU listed k\/k=i) (fun _=> .inl) (fun k hk b hb j hj=> ?_) x.1 (.inr FN) _ haf _ h) (zF y (oG _ hy)).1;rcases hk with hk|rfl;exact cK k hk b hb j hj;rw[kG,kB] at hb;simp only[eB,aH] at hb;subst hb;exact fV j hj;exact h
  obtain⟨e1,EA,RY⟩:=bZ4 hF.srt bY hap;have hsi:ss[i]? =some x.2.1:=by have h2:=(zF x hx).2;rwa[FN] at h2
  have aA2:=r9 i op x.2.1 kB hsi aA e1 a w hF EA.step;have kV:∀y,y∈l++r->y.1≠i:=by intro y hy;rcases iC.1 hy with hy|hy;have:=(hpc y hy x (dC ..)).1;omega;have:=((vT.1 R0).1 y hy).1;omega
  have next:∀u w1,FI P nt keep S aD w0 e1 (a.put op.dst u) w1->wpAny P .any bB.toArray Q fuel (listed.setIfInBounds i true) (a.put op.dst u) w1:=by
   intro u w1 h;refine ih _ (l++r) e1 _ w1 (by simpa using hs) ?_ (fun y hy=> ?_) (fun j hj=> ?_) (fun k hk b hb j hj=> ?_) ?_ RY h hQ;have:=V9 his bM;omega;have eS:y∈l++x::r:=by rcases iC.1 hy with h|h;exact oG _ h;exact rK _ (dL _ h)
   obtain⟨h1,h2⟩:=zF y eS;refine⟨fun h=> ?_,h2⟩;rcases(kP his _).1 h with h|h;exact kV y hy h;exact h1 h;rcases MQ j hj with h|⟨y,hy,hyj⟩;exact .inl ((kP his j).2 (.inr h));by_cases hji:j=i;exact .inl ((kP his j).2 (.inl hji));right;refine⟨y,?_,hyj⟩;rcases iC.1 hy with h|h;exact oG _ h;rcases eP.1 h with rfl|h;exact absurd (hyj.symm.trans FN) hji;exact rK _ h;refine(kP his j).2 (.inr ?_);rcases(kP his k).1 hk with rfl|hk;rw[kG,kB] at hb;simp only[eB,aH] at hb;subst hb;exact fV j hj;exact cK k hk b hb j hj;refine QJ.2 ⟨eF,(vT.1 R0).2,fun y hy z hz=>hpc y hy z (dL _ hz)⟩
  unfold wpOp;rw[aO];simp only;rcases aA2 with⟨hw,dN⟩|⟨hw,bZ⟩
  ·rw[aY hw];left;refine f8.wp ?_;revert dN;generalize (execOp a.eval op).run P w=res;intro dN;unfold f8 at dN⊢;split at dN
   ·exact next _ _ dN
   ·exact next _ _ dN
   ·exact dN.mono fun e w1 ⟨u,he,h⟩=>⟨u,he,next _ _ h⟩
   exact dN.elim
  ·rw[aK (by simp[hw])];exact next _ _ bZ
def bE4 (hm:P.follows .mixedOrders=true){id:Nat}{aJ:Array Oper}{ss:List gX}(bT:ss.length=aJ.toList.length)(aC:Fi o ss (EP (aJ.toList.map eD)) aA=some aN)(r9:∀(i:Nat) op s,aJ.toList[i]? =some op->ss[i]? =some s->∀aA e a w,FI P nt (keep++(aJ.toList.flatMap fun o=>o.dst.toList)) S aD w0 aA a w->mB o aA s=some e->(Region.wanted op (yielded aJ a.tmps)=true/\f8 P ((execOp a.eval op).run P w) fun u w1=>FI P nt (keep++(aJ.toList.flatMap fun o=>o.dst.toList)) S aD w0 e (a.put op.dst u) w1)\/(Region.wanted op (yielded aJ a.tmps)=false/\FI P nt (keep++(aJ.toList.flatMap fun o=>o.dst.toList)) S aD w0 e (a.put op.dst undef) w))
  (pG:((List.range aJ.size).all fun i=>match aJ[i]? with |some o=>(eD o).all fun j=>decide (j<i)|none=>false)=true)
  (hF:FI P nt keep S aD w0 aA a w){Q:Exit->Act->World->Prop}(hQ:∀a' w',FI P nt keep S aD w0 (dropE ((aJ.toList.flatMap fun o=>o.dst.toList).filter fun t=> !keep.contains t) aN) a' w'->Q .normal a' w'):
  (Code.region id aJ true).wp P Q a w:=by
 refine UK hm ?_;have bZ:=hF.keys_mono (oO:=keep++(aJ.toList.flatMap fun o=>o.dst.toList)) fun n hn=>oG _ hn;have nT:Below w.heap.size w {w with drawn:=w.drawn+1}:=⟨rfl,rfl,rfl,dD _,fun _ _=>rfl⟩;have dI:=bZ.grow nT;unfold Fi at aC;simp only[bL] at aC;obtain⟨⟨e,fs⟩,h1,h2⟩:=aC;split at h2;rename_i hind;simp only[aH] at h2;subst h2;obtain⟨RX,fC⟩:=bC7 0 hF.srt h1;have lF:∀k,¬bU (Array.replicate aJ.size false) k:=fun k hk=>by unfold bU at hk;simp only[vP,HW] at hk;split at hk<;>simp at hk
 have oP:zB (Array.replicate aJ.size false)<=aJ.size:=by unfold zB;exact fG (Tl ..) (by simp)
 have:=cY4 (Q:=Q) (bB:=aJ.toList) bT r9 (fun i op aO j hj=>by
   have kB:aJ[i]? =some op:=by simpa using aO
   have:=eM.1 pG i (nH.2 (j6.1 kB).1);rw[kB] at this;simpa using eM.1 this j hj) aJ.size (Array.replicate aJ.size false) (rY 0 ss fs) aA a {w with drawn:=w.drawn+1} (by simp) oP
  (fun x hx=>⟨lF _,by simpa using(Oj hx).2⟩) (fun i hi=> .inr (Zt fC i (A6 _) (by omega)))
  (fun k hk=>absurd hk (lF k)) (Z' (AF:=EP (aJ.toList.map eD)) (by simp) hind) RX dI (fun a' w' h=>hQ a' w' (h.dropE _ fun n hn hd=>by
   by_cases hk:n∈keep;exact hk;rcases iC.1 hn with h|h;exact h;exact absurd (vS.2 ⟨h,by simp[hk]⟩) hd))
 simpa using this;cases h2
def Xx {bB:List Oper}:∀{r:List Oper} {ss:List gX},G8 P bB r=some ss->ss.length=r.length/\∀(i:Nat) op,r[i]? =some op->∃s,ss[i]? =some s/\Je P bB op=some s
 |[],ss,h=>by simp only[G8,aH] at h;subst h;simp|op::r,ss,h=>by simp only[G8,bL,aH] at h;obtain⟨s,hs,ss',AG,rfl⟩:=h;obtain⟨h1,h2⟩:=Xx AG;refine⟨by simp[h1],fun i eX hi=> ?_⟩;cases i with|zero=>simp at hi;subst hi;exact⟨s,rfl,hs⟩|succ i=>simpa using h2 i eX (by simpa using hi)
def bA7 (ho:eL P o){bB:List Oper}{op:Oper}{s:gX}{e:aG}(hs:Je P bB op=some s)(eN:∀d,op.dst=some d->d∈keep/\d<nt)(hF:FI P nt keep S aD w0 aA a w)(h1:mB o aA s=some e):
  (Region.wanted op (yielded bB.toArray a.tmps)=true/\f8 P ((execOp a.eval op).run P w) fun u w1=>FI P nt keep S aD w0 e (a.put op.dst u) w1)\/(Region.wanted op (yielded bB.toArray a.tmps)=false/\FI P nt keep S aD w0 e (a.put op.dst undef) w):=by
 unfold Je at hs;split at hs
 ·rename_i g yC;simp only[bL,gY] at hs;obtain⟨p,hp,st,Ci,rfl⟩:=hs;unfold PE at hp;simp only[gY,bL] at hp;obtain⟨d,⟨og,hog,hd⟩,rfl⟩:=hp;simp only[mB,bL] at h1;obtain⟨v,hv,h1⟩:=h1;cases v<;>first |(cases h1;done)|skip
  rename_i u;have hu:=RL hF hv;have hy:yielded bB.toArray a.tmps g.1=some u:=by simp[yielded,hog,hd,hu]
  simp only at h1;by_cases wM:u=g.2;rw[aY wM] at h1;left;refine⟨?_,(Jh (oper:={op with guard:=none}) ho hF Ci h1 eN).2⟩;unfold Region.wanted;rw[yC];simp[hy,wM];rw[aK wM] at h1;cases h1;right;refine⟨?_,hF.putO_ud eN⟩;unfold Region.wanted;rw[yC];simp[hy,wM]
 ·rename_i yC;have hw:Region.wanted op (yielded bB.toArray a.tmps)=true:=by simp[Region.wanted,yC]
  left;refine⟨hw,?_⟩;split at hs
  ·rename_i c x y d aO hd;simp only[bL,aH] at hs;obtain⟨sx,hsx,sy,hsy,rfl⟩:=hs;simp only[mB,bL] at h1;obtain⟨v,hv,h1⟩:=h1;cases v<;>first |(cases h1;done)|skip
   rename_i u;simp only[bL] at h1;obtain⟨z,hz,h1⟩:=h1;split at h1;rename_i fC;cases h1;have hu:=RL hF hv;have gC:aP (dS w) w (if u=true then a.eval x else a.eval y) z:=by cases u with|true=>exact En hF hsx hz|false=>exact En hF hsy hz
   obtain⟨kD,hdd⟩:=eN d hd;refine Gk (u:=if u=true then a.eval x else a.eval y) (w1:=w) ?_ ?_;have:a.eval (.tmp c)= .bool u:=eW hu;simp[execOp,aO,this,asBool];rw[hd];exact hF.put_flat kD hdd (cZ _ _) gC fC;cases h1
  simp only[gY] at hs;obtain⟨st,Ci,rfl⟩:=hs;exact(Jh ho hF Ci h1 eN).2
def bW0 {aJ:Array Oper}(lA:aJ.toList.all (fun o=>match o.dst with |some d=>decide (d<nt)|none=>true)=true){i:Nat}{op:Oper}(aO:aJ.toList[i]? =some op):∀d,op.dst=some d->d∈keep++(aJ.toList.flatMap fun o=>o.dst.toList)/\d<nt:=by intro d hd;have hm:=k6 aO;refine⟨rK _ (sM.2 ⟨op,hm,by simp[hd]⟩),?_⟩;have h:=eM.1 lA op hm;rw[hd] at h;simpa using h
def dH9 (ho:eL P o)(hm:P.follows .mixedOrders=true){id:Nat}{aJ:Array Oper}{ss:List gX}(eK:G8 P aJ.toList aJ.toList=some ss)(aC:Fi o ss (EP (aJ.toList.map eD)) aA=some aN)(lA:aJ.toList.all (fun o=>match o.dst with |some d=>decide (d<nt)|none=>true)=true)
  (pG:((List.range aJ.size).all fun i=>match aJ[i]? with |some o=>(eD o).all fun j=>decide (j<i)|none=>false)=true)
  (hF:FI P nt keep S aD w0 aA a w){Q:Exit->Act->World->Prop}(hQ:∀a' w',FI P nt keep S aD w0 (dropE ((aJ.toList.flatMap fun o=>o.dst.toList).filter fun t=> !keep.contains t) aN) a' w'->Q .normal a' w'):
  (Code.region id aJ true).wp P Q a w:=by
 refine bE4 (o:=o) hm (Xx eK).1 aC (fun i op s aO hs aA e a w hF h1=> ?_) pG hF hQ;obtain⟨s',fR,KD⟩:=(Xx eK).2 i op aO;rw[hs] at fR;cases fR;simpa using bA7 ho KD (bW0 lA aO) hF h1
def bC9:∀(ss:List St) (aA:aG),Ep o (ss.map .s) aA=Jl o ss aA
 |[],_=>rfl|s::r,aA=>by simp only[fF,Ep,Jl,mB,HA,bC9 r]
def dH3 (ho:eL P o)(hm:P.follows .mixedOrders=true){id:Nat}{aJ:Array Oper}{ss:List St}(eK:n9 P aJ.toList=some ss)(aC:KX o ss (EP (aJ.toList.map eD)) aA=some aN)(lA:aJ.toList.all (fun o=>match o.dst with |some d=>decide (d<nt)|none=>true)=true)
  (pG:((List.range aJ.size).all fun i=>match aJ[i]? with |some o=>(eD o).all fun j=>decide (j<i)|none=>false)=true)
  (hF:FI P nt keep S aD w0 aA a w){Q:Exit->Act->World->Prop}(hQ:∀a' w',FI P nt keep S aD w0 (dropE ((aJ.toList.flatMap fun o=>o.dst.toList).filter fun t=> !keep.contains t) aN) a' w'->Q .normal a' w'):
  (Code.region id aJ true).wp P Q a w:=by
 refine bE4 (o:=o) (ss:=ss.map .s) hm (by simpa using(Xw eK).1) (by unfold Fi;rw[bC9];exact aC) (fun i op s aO hs aA e a w hF h1=> ?_) pG hF hQ;obtain⟨s',fR,KD⟩:=(Xw eK).2 i op aO;simp only[kG,fR,eB,aH] at hs;subst hs;obtain⟨hg,dN⟩:=Jh ho hF KD h1 (bW0 lA aO);exact .inl ⟨by simp[Region.wanted,hg],dN⟩
end
end Go.VM
namespace Go.VM
open Go.RowKit
variable [cB]
section
variable {P:Program} {nt:Nat} {keep ret:List Nat} {S:Nat->Prop} {aD:Nat} {w0:World} {o:aU}
def Ex.exit:Ex->Exit
 | .n=> .normal| .e id=> .exit id| .r=> .ret
def SF {aA:aG}{a:Act}{w:World}(hF:FI P nt keep S aD w0 aA a w){c:Operand}{x:X}(hx:M4 c=some x){t:Bool}(hv:dJ o aA x=some (.b t)):a.eval c= .bool t:=by unfold M4 at hx;split at hx;rename_i n;cases hx;simp only[dJ] at hv;obtain⟨Im,_,bK,hE⟩:=hF.ents;obtain⟨u,hu,hr⟩:=RK hE (fun b h=>(bK b h).2) hv;rw[eW hu];cases hr;rfl;rename_i b;cases hx;simp only[dJ,aH,V.b.injEq] at hv;subst hv;rfl;cases hx
def zM (ho:eL P o)(hm:P.follows .mixedOrders=true):∀(c:Code) (es:List (Nat×List Nat)) (out:List Nat) (cc:C),pJ P nt keep ret c es out=some cc->
  ∀(aA:aG) (ex:Ex) (aN:aG),bI o cc aA=some (ex,aN)->∀(a:Act) (w:World),FI P nt keep S aD w0 aA a w->∀(Q:Exit->Act->World->Prop),(∀a' w',FI P nt keep S aD w0 aN a' w'->Q ex.exit a' w')->c.wp P Q a w
 | .skip,es,out,cc,hc,aA,ex,aN,hx,a,w,hF,Q,hQ=>by simp only[pJ,aH] at hc;subst hc;simp only[bI,aH,cM] at hx;obtain⟨rfl,rfl⟩:=hx;exact wp_skip (hQ a w hF)
 | .region id aJ draw,es,out,cc,hc,aA,ex,aN,hx,a,w,hF,Q,hQ=>by
  simp only[pJ] at hc;split at hc;rename_i rs hq;cases hc;simp only[bI,bL,aH,cM] at hx;obtain⟨e,he,rfl,rfl⟩:=hx;split at hq;split at hq;rename_i rs' dE;cases hq;split at dE;exact dH4 ho hm dE he hF hQ;cases dE;split at hq;rename_i hd;subst hd;exact dH8 ho hm hq he hF hQ;cases hq;cases hq;simp only[aH] at hc;cases hC:aF5 P nt keep aJ draw with|none=>rw[hC] at hc;simp only[Option.getD_none] at hc;subst hc;exact absurd hx (by simp[aZ9,bI,wJ,dJ,vI,aS])|some cc'=>
  rw[hC] at hc;simp only[GQ] at hc;subst hc;have hc:=hC;unfold aF5 at hc;split at hc;cases hc;rename_i hd;simp only[LB,Bool.not_eq_false] at hd;split at hc;simp only[bL] at hc;obtain⟨ss,eK,hc⟩:=hc;split at hc;rename_i hdr;split at hc;rename_i pG;simp only[aH] at hc;subst hc;simp only[bI,bL,aH,cM] at hx;obtain⟨e,he,rfl,rfl⟩:=hx;rw[hdr];exact dH9 ho hm eK he hd pG hF hQ;cases hc;rename_i hdr;simp only[aH] at hc;subst hc;simp only[bI,bL,aH,cM] at hx;obtain⟨e,he,rfl,rfl⟩:=hx;rw[show draw=false from by simpa using hdr];exact dH7 ho eK he hd hF hQ;rename_i ss eK;split at hc;rename_i hdr;split at hc;rename_i pG;simp only[aH] at hc;subst hc;simp only[bI,bL,aH,cM] at hx;obtain⟨e,he,rfl,rfl⟩:=hx;rw[hdr];exact dH3 ho hm eK he hd pG hF hQ;cases hc;rename_i hdr;simp only[aH] at hc;subst hc;simp only[bI,bL,aH,cM] at hx;obtain⟨e,he,rfl,rfl⟩:=hx;rw[show draw=false from by simpa using hdr];exact OU ho eK he hd hF hQ
 | .seq x y,es,out,cc,hc,aA,ex,aN,hx,a,w,hF,Q,hQ=>by
  simp only[pJ,bL,aH] at hc;obtain⟨c1,h1,c2,h2,rfl⟩:=hc;simp only[bI,bL] at hx;obtain⟨⟨e1,aM⟩,F1,hx⟩:=hx;refine nW (zM ho hm x _ _ c1 h1 aA e1 aM F1 a w hF _ fun a1 w1 bZ=> ?_);cases e1 with
  |n=>exact zM ho hm y _ _ c2 h2 aM ex aN hx a1 w1 bZ Q hQ|e id=>simp only[aH,cM] at hx;obtain⟨rfl,rfl⟩:=hx;exact hQ a1 w1 bZ
  |r=>simp only[aH,cM] at hx;obtain⟨rfl,rfl⟩:=hx;exact hQ a1 w1 bZ
 | .cond c x y,es,out,cc,hc,aA,ex,aN,hx,a,w,hF,Q,hQ=>by
  simp only[pJ,bL,aH] at hc;obtain⟨cx,hcx,c1,h1,c2,h2,rfl⟩:=hc;simp only[bI,bL] at hx;obtain⟨v,hv,hx⟩:=hx;cases v<;>first |(cases hx;done)|skip
  rename_i t;refine H3 (SF hF hcx hv) ?_;cases t with|true=>exact zM ho hm x _ _ c1 h1 aA ex aN hx a w hF Q hQ|false=>exact zM ho hm y _ _ c2 h2 aA ex aN hx a w hF Q hQ
 | .block id x,es,out,cc,hc,aA,ex,aN,hx,a,w,hF,Q,hQ=>by
  simp only[pJ,bL,aH] at hc;obtain⟨c1,h1,rfl⟩:=hc;simp only[bI,bL] at hx;obtain⟨⟨e1,aM⟩,F1,hx⟩:=hx;refine LO (zM ho hm x _ _ c1 h1 aA e1 aM F1 a w hF _ fun a1 w1 bZ=> ?_);cases e1 with
  |n=>simp only[aH,cM] at hx;obtain⟨rfl,rfl⟩:=hx;exact hQ a1 w1 bZ
  |e j=>simp only at hx;simp only[Ex.exit,Exit.inBlock];split at hx;simp only[aH,cM] at hx;obtain⟨rfl,rfl⟩:=hx;rw[aY ‹_›];exact hQ a1 w1 bZ;simp only[aH,cM] at hx;obtain⟨rfl,rfl⟩:=hx;rw[aK ‹_›];exact hQ a1 w1 bZ
  |r=>simp only[aH,cM] at hx;obtain⟨rfl,rfl⟩:=hx;exact hQ a1 w1 bZ
 | .loop x,es,out,cc,hc,aA,ex,aN,hx,a,w,hF,Q,hQ=>by
  simp only[pJ,bL,aH] at hc;obtain⟨c1,h1,rfl⟩:=hc;simp only[bI] at hx;unfold C8 at hx;split at hx
  ·rename_i mG;generalize Classical.choose mG=n at hx;refine wp_loop_rounds n ?_;have key:∀(n:Nat) (aA:aG) (a:Act) (w:World),nA (fun e=>bI o c1 (VM.keepE (Ln ((vB ret (.loop x) es out).filter fun t=>keep.contains t)) e)) n aA=some (ex,aN)->FI P nt keep S aD w0 aA a w->Code.rounds P x Q n a w:=by
    intro n;induction n with
    |zero=>intro aA a w h;simp[nA] at h
    |succ n ih=>
     intro aA a w h hF;simp only[nA,bL] at h;obtain⟨⟨e1,aM⟩,F1,h⟩:=h;refine zM ho hm x _ _ c1 h1 _ e1 aM F1 a w (hF.keepE _) _ fun a1 w1 bZ=> ?_;cases e1 with
     |n=>exact ih aM a1 w1 h bZ|e id=>simp only[aH,cM] at h;obtain⟨rfl,rfl⟩:=h;exact hQ a1 w1 bZ
     |r=>simp only[aH,cM] at h;obtain⟨rfl,rfl⟩:=h;exact hQ a1 w1 bZ
   exact key n aA a w hx hF
  cases hx
 | .exit id,es,out,cc,hc,aA,ex,aN,hx,a,w,hF,Q,hQ=>by simp only[pJ,aH] at hc;subst hc;simp only[bI,aH,cM] at hx;obtain⟨rfl,rfl⟩:=hx;exact wp_exit (hQ a w (hF.keepE _))
 | .ret,es,out,cc,hc,aA,ex,aN,hx,a,w,hF,Q,hQ=>by simp only[pJ,aH] at hc;subst hc;simp only[bI,aH,cM] at hx;obtain⟨rfl,rfl⟩:=hx;exact wp_ret (hQ a w (hF.keepE _))
 | .rangeFunc _ _ _ _,_,_,_,hc,_,_,_,_,_,_,_,_,_=>by simp[pJ] at hc| .goto _,_,_,_,hc,_,_,_,_,_,_,_,_,_=>by simp[pJ] at hc| .label _,_,_,_,hc,_,_,_,_,_,_,_,_,_=>by simp[pJ] at hc| .scope _,_,_,_,hc,_,_,_,_,_,_,_,_,_=>by simp[pJ] at hc
end
end Go.VM
namespace Go.VM
open Go.RowKit
variable [cB]
section
variable {P:Program} {nt:Nat} {keep ret:List Nat} {S:Nat->Prop} {aD:Nat} {w0:World} {o:aU} {a:Act} {w:World}
def aB2:∀(xs:List V) (i n:Nat),aF n (kR i xs)=if n<i then none else xs[n - i]?
 |[],i,n=>by simp[kR,aF]|x::r,i,n=>by simp only[kR,aF,aB2 r];by_cases h:n=i;subst h;simp;rw[aK h];by_cases h2:n<i;rw[aY (by omega),aY h2];rw[aK (by omega),aK h2,show n - i=(n - (i+1))+1 from by omega,HY]
def YU:∀(xs:List V) (i:Nat),cH (kR i xs)/\∀p∈kR i xs,i<=p.1
 |[],i=>⟨cH.nil,by simp[kR]⟩|x::r,i=>by obtain⟨h1,h2⟩:=YU r (i+1);refine⟨vT.2 ⟨fun p hp=> ?_,h1⟩,fun p hp=> ?_⟩;have:=h2 p hp;show i<p.1;omega;rcases eP.1 hp with rfl|hp;exact dD _;have:=h2 p hp;omega
def FI.start {xs:List V}{vs:List Value}(hS:∀b,S b->b<w.heap.size)(hG:mV S w)(hr:aX S w vs xs)(harg:xs.all V.arg=true)(lA:xs.length<=nt)(O':∀n,n<xs.length->n∈keep)(dA:vs.toArray.size<=nt):
  FI P nt keep S w.heap.size w (kR 0 xs) {tmps:=vs.toArray++Array.replicate (nt - vs.toArray.size) undef,defers:=[]} w:=by
 have hg:∀n x,aF n (kR 0 xs)=some x->∃u,vs[n]? =some u/\aP S w u x/\n<xs.length/\x.names=none/\x.isOwn=false/\x.smp=true:=by intro n x hx;rw[aB2] at hx;simp only[QL,mW,QM] at hx;obtain⟨u,hu,kN⟩:=hr.getD hx;have hax:=eM.1 harg x (k6 hx);refine⟨u,hu,kN,(fE.1 hx).1,(I9 kN).1,(I9 kN).2.1,Qr kN fun ys e=> ?_⟩;subst e;simp[V.arg] at hax
 refine⟨(YU xs 0).1,?_,rfl,cZ _ _,fun _ _=>rfl,dD _,fun n x hx=> ?_,S,fun _ h=>h,fun b h=>⟨.inl h,hS b h⟩,?_⟩;simp;have:vs.length<=nt:=by simpa using dA
 omega;obtain⟨u,_,_,h,_⟩:=hg n x hx;exact⟨O' n h,by omega⟩
 ·refine⟨fun n x hx=> ?_,fun n x m hx hm=> ?_,fun n c n' c' g h _=> ?_,hG⟩
  ·obtain⟨u,hu,kN,_,_,ho,kM⟩:=hg n x hx;have bE:=(fE.1 hu).1;refine⟨u,?_,?_⟩;show(vs.toArray++_)[n]? =some u;rw[Array.getElem?_append_left (by simpa using bE)];simpa using hu
   ·rw[fT.res1 kM];cases x<;>first |exact kN|(simp[V.isOwn] at ho;done)|(simp[V.smp] at kM;done)
  obtain⟨u,_,_,_,h,_⟩:=hg n x hx;rw[h] at hm;cases hm;exfalso;cases c with
  |none=>obtain⟨x,u,hx,ho,_⟩:=h;obtain⟨_,_,_,_,_,h,_⟩:=hg n x hx;rw[ho] at h;cases h
  |some j=>obtain⟨ys,us,y,u,hx,_⟩:=h;obtain⟨_,_,_,_,_,_,h⟩:=hg n _ hx;simp[V.smp] at h
def dG7 {aA aM:aG}{Im:Nat->Prop}(hE:d8 P Im w aD aA (tm a))(hs:cH aA){r:ResultVar}{rv:RV}(hr:sY P [r]=some [rv]){y:V}(hv:fZ aA rv=some (y,aM)):
  ∃u,(match r with | .tmp t=>pure (a.tmps.getD t undef)| .cell c t=>do loadVar t (<-asAddr (a.tmps.getD c undef)):Sem Value).run P w= .ok u w/\fL P Im w aD u y/\d8 P Im w aD aM (tm a)/\cH aM/\
   (∀n c g,cO aM (tm a) n c g->cO aA (tm a) n c g)/\(y.isOwn=true->∀g,dR u=some g->(∃m c,cO aA (tm a) m c g)/\∀n c,¬cO aM (tm a) n c g):=by
 have getD_tm:∀{t:Nat} {u:Value},tm a t=some u->a.tmps.getD t undef=u:=fun{t u} h=>by have h':a.tmps[t]? =some u:=h;simp[vP,h']
 have slot:∀(t m:Nat) (x:V) (u:Value),tm a t=some u->aF m aA=some x->tm a m=some u->x.smp=true->aM=(if x.isOwn then put m .ud aA else aA)->∃u,(pure (a.tmps.getD t undef):Sem Value).run P w= .ok u w/\fL P Im w aD u x/\d8 P Im w aD aM (tm a)/\cH aM/\
   (∀n c g,cO aM (tm a) n c g->cO aA (tm a) n c g)/\(x.isOwn=true->∀g,dR u=some g->(∃m c,cO aA (tm a) m c g)/\∀n c,¬cO aM (tm a) n c g):=by
  intro t m x u ht hx hu kM he;obtain⟨u',cP,gQ⟩:=hE.ent m x hx;have:=hu.symm.trans cP;cases this;rw[fT.res1 kM] at gQ;refine⟨u,by rw[getD_tm ht];rfl,gQ,?_⟩;by_cases ho:x.isOwn=true;rw[aY ho] at he;subst he;obtain⟨h1,h2⟩:=hE.spent hx;refine⟨h1,hs.put _ _,fun n c g h=>(h2 n c g h).2,fun _ g hg=> ?_⟩;have cA:cO aA (tm a) m none g:=⟨x,u,hx,ho,hu,hg⟩;exact⟨⟨m,none,cA⟩,fun n c h=>(h2 n c g h).1 (hE.apart _ _ _ _ _ (h2 n c g h).2 cA).1⟩;rw[aK ho] at he;subst he;exact⟨hE,hs,fun _ _ _ h=>h,fun h=>absurd h ho⟩
 cases r with
 |tmp t=>
  simp only[sY,eB,aH,gG,jJ] at hr;subst hr;simp only[fZ] at hv;cases hx:aF t aA with
  |none=>rw[hx] at hv;cases hv
  |some x=>
   rw[hx] at hv;simp only[aZ] at hv;obtain⟨u,hu,gQ⟩:=hE.ent t x hx;cases x with
   |al m=>simp only at hv;cases hz:aF m aA with|none=>rw[hz] at hv;cases hv|some z=>rw[hz] at hv;simp only[aZ] at hv;cases z<;>first |(cases hv;done)|(simp only[aH,cM] at hv;obtain⟨rfl,rfl⟩:=hv;exact slot t m _ u hu hz gQ rfl rfl)
   |_=>first |(cases hv;done)|(simp only[aH,cM] at hv;obtain⟨rfl,rfl⟩:=hv;exact slot t t _ u hu hx hu rfl rfl)
 |cell c t=>
  simp only[sY] at hr;split at hr
  ·rename_i cR;simp only[eB,aH,gG,jJ] at hr;subst hr;simp only[fZ,bL,aH,cM] at hv;obtain⟨x,hx,y',hy,rfl,rfl⟩:=hv;obtain⟨cs,he,hl,lL⟩:=Zv hy;simp only[gG,jJ] at he;subst he;obtain⟨ad,vs,hT,hc,kN,dG⟩:=bL5 hE hx;obtain⟨u,pD,bY⟩:=bM3 cR hc kN dG hl lL;have kM:y'.smp=true:=Qr pD fun ys e=>by
    subst e;split at lL;cases lL;exact absurd (hc _ (k6 lL)) (by simp[V.cell])
   have ho:=Ya pD;refine⟨u,?_,?_,hE,hs,fun _ _ _ h=>h,fun h=>by rw[ho] at h;cases h⟩;simpa[Instr.loadAt,Instr.sureAddr,getD_tm hT,asAddr] using bY
   ·cases y'<;>first |exact pD|(simp[V.isOwn] at ho;done)|(simp[V.smp] at kM;done)
  cases hr
def Qv {Im:Nat->Prop}:∀{rs:List ResultVar} {rvs:List RV} {aA:aG} {vs:List V},d8 P Im w aD aA (tm a)->cH aA->sY P rs=some rvs->Ak rvs aA=some vs->
  ∃us:List Value,(rs.mapM (m:=Sem) fun | .tmp t=>pure (a.tmps.getD t undef)| .cell c t=>do loadVar t (<-asAddr (a.tmps.getD c undef))).run P w= .ok us w/\us.length=vs.length/\(∀(j:Nat) u y,us[j]? =some u->vs[j]? =some y->fL P Im w aD u y)/\apart us vs/\
   (∀(j:Nat) u y g,us[j]? =some u->vs[j]? =some y->y.isOwn=true->dR u=some g->∃m c,cO aA (tm a) m c g)
 |[],rvs,aA,vs,hE,hs,hr,hv=>by simp only[sY,aH] at hr;subst hr;simp only[Ak,aH] at hv;subst hv;exact⟨[],by simp,rfl,by simp,fun i j u u' y y' g _ h=>by simp at h,by simp⟩
 |r::rs,rvs,aA,vs,hE,hs,hr,hv=>by
  obtain⟨rv,rvs',hrv,hrvs,rfl⟩:∃rv rvs',sY P [r]=some [rv]/\sY P rs=some rvs'/\rvs=rv::rvs':=by
   cases r with
   |tmp t=>simp only[sY,gY] at hr;obtain⟨rvs',h,rfl⟩:=hr;exact⟨.tmp t,rvs',by simp[sY],h,rfl⟩
   |cell c t=>simp only[sY] at hr;split at hr;rename_i cR;simp only[gY] at hr;obtain⟨rvs',h,rfl⟩:=hr;exact⟨_,rvs',by simp only[sY];rw[aY cR];rfl,h,rfl⟩;cases hr
  simp only[Ak,bL,aH] at hv;obtain⟨⟨y,aM⟩,h1,ys,h2,rfl⟩:=hv;obtain⟨u,bY,eA,AN,fM,cA,dN⟩:=dG7 hE hs hrv h1;obtain⟨us,RX,hl,hress,hap,hos⟩:=Qv AN fM hrvs h2;refine⟨u::us,?_,by simp[hl],fun j v z hj hz=> ?_,fun i j v v' z z' g pY hi hj hzi hzj ho oC hg jR=> ?_,fun j v z g hj hz ho hg=> ?_⟩;rw[List.mapM_cons];simp only[dX];rw[bY];simp only[dQ,RX,eU];cases j with|zero=>simp at hj hz;subst hj;subst hz;exact eA|succ j=>exact hress j v z (by simpa using hj) (by simpa using hz)
  cases i with
  |zero=>simp at hi hzi;subst hi;subst hzi;cases j with|zero=>exact pY rfl|succ j=>obtain⟨m,c,h⟩:=hos j v' z' g (by simpa using hj) (by simpa using hzj) oC jR;exact(dN ho g hg).2 m c h
  |succ i=>
   cases j with
   |zero=>simp at hj hzj;subst hj;subst hzj;obtain⟨m,c,h⟩:=hos i v z g (by simpa using hi) (by simpa using hzi) ho hg;exact(dN oC g jR).2 m c h
   |succ j=>exact hap i j v v' z z' g (by omega) (by simpa using hi) (by simpa using hj) (by simpa using hzi) (by simpa using hzj) ho oC hg jR
  cases j with|zero=>simp at hj hz;subst hj;subst hz;exact(dN ho g hg).1|succ j=>obtain⟨m,c,h⟩:=hos j v z g (by simpa using hj) (by simpa using hz) ho hg;exact⟨m,c,cA m c g h⟩
def Oi {x:Nat}{l m:List Nat}(h:x∈l):x∈VM.union l m:=oG _ h
def Qu {fn:Func}{rs:List RV}(eA:sY P fn.results.toList=some rs){aA:aG}{a':Act}{w':World}{w:World}(dI:FI P nt keep S w.heap.size w aA a' w'){y:V}(hv:yA rs aA=some y):
  a'.defers=[]/\∃v,(results fn a'.tmps).run P w'= .ok v w'/\∃v',Ending.returned v= .returned v'/\Below w.heap.size w w'/\
     ∃S':Nat->Prop,(∀b,S b->S' b)/\(∀b,S' b->(S b\/w.heap.size<=b)/\b<w'.heap.size)/\mJ P S' w' w.heap.size v' y:=by
 obtain⟨Im,cE,bK,hE⟩:=dI.ents;unfold yA at hv;simp only[gY] at hv;obtain⟨ys,Aq,hy⟩:=hv;obtain⟨us,bY,hl,hh,hap,_⟩:=Qv hE dI.srt eA Aq;refine⟨dI.defers,(if h:us.toArray.size=1 then us.toArray[0] else .tuple us.toArray),?_,_,rfl,dI.below,Im,cE,bK,?_⟩;unfold results;rw[Tc];simp only[UI,dX]
 erw [bY]
 simp only[dQ,eU]
 ·match ys,us,hl,hh,hy with
  |[y1],[u1],_,hh,hy=>simp only at hy;subst hy;have:=hh 0 u1 y1 rfl rfl;simp only[rL,fY,vR,E0,dite_true];rw[mJ.eq1];exact this;intro zs e;subst e;exact this|[],[],_,hh,hy=>simp only at hy;subst hy;exact⟨[],rfl,rfl,by simp,fun i j u u' y y' g _ h=>by simp at h⟩
  |y1::y2::yr,u1::u2::ur,hl,hh,hy=>
   simp only at hy;subst hy;have h1:¬(u1::u2::ur).toArray.size=1:=by simp
   rw[LL h1];exact⟨_,rfl,hl,hh,hap⟩
def aO5 (ho:eL P o){f:FuncId}{fn:Func}(hf:P.funcs[f]? =some fn){fc:aQ}(hc:oU P fn=some fc){xs:List V}{y:V}(hv:BN o fc xs=some y):PF P f xs y:=by
 unfold oU at hc;simp only[bL] at hc;obtain⟨c,wT,b,F3,rs,eA,hc⟩:=hc;split at hc;rename_i fN;cases hc;unfold BN at hv;split at hv;rename_i pZ;simp only[bL] at hv;obtain⟨⟨ex,aN⟩,aA7,hv⟩:=hv;intro S w vs hS hG hr;refine LK hf wT ?_;have bT:vs.length=fn.params.size+fn.nfree:=hr.1.trans pZ.1;have hF:=FI.start (P:=P) (nt:=fn.ntmps) (keep:=Bn fn c) hS hG hr pZ.2 (by rw[pZ.1];exact fN.1) (fun n hn=>Oi (nH.2 (by rw[pZ.1] at hn;exact hn))) (by simp[bT];exact fN.1);refine zM ho fN.2 c [] (Er fn) b F3 _ ex aN aA7 _ w hF _ fun a' w' dI=> ?_;have fin:=fun hv=>Qu (P:=P) eA dI (y:=y) hv;cases ex with|n=>exact fin hv|r=>exact fin hv|e id=>cases hv
 cases hv;cases hc
end
end Go.VM
namespace Go.VM
open Go.RowKit
variable [cB]
def add (o:aU)(f:Nat)(s:List V->Option V):aU:=fun g xs=>if g=f then s xs else o g xs
def o0:aU:=fun _ _=>none
def YY (P:Program)(hM:Ko P):eL P o0:=⟨hM,fun _ _ _ h=>by simp[o0] at h⟩
def eL.ext {P:Program}{o:aU}(ho:eL P o){f:Nat}(cR:jG P f=true){s:List V->Option V}(hs:∀xs y,s xs=some y->PF P f xs y):eL P (add o f s):=by refine⟨ho.1,?_⟩;intro g xs y h;unfold VM.add at h;split at h;rename_i e;subst e;exact⟨cR,hs xs y h⟩;exact ho.2 g xs y h
def eL.add {P:Program}{o:aU}(ho:eL P o){f:Nat}{fn:Func}(hf:P.funcs[f]? =some fn)(cR:jG P f=true){fc:aQ}(hc:oU P fn=some fc){s:List V->Option V}(hs:∀xs y,s xs=some y->BN o fc xs=some y):eL P (add o f s):=
 ho.ext cR fun xs y h=>aO5 ho hf hc (hs xs y h)
def cY (P:Program):Nat->TypeId->List V->Prop
 |0,_,_=>True
 |n+1,t,xs=>match P.underlying t with
  |some .bool=>∃b,xs=[.b b]|some (.int k)=>∃m,xs=[.i k m]/\(Lit.int k m).wf=true|some .string=>∃s,xs=[.s s]/\s.length<=maxLen|some (.slice e)=>∃es:List V,xs=[.l es]/\es.length<=maxLen/\∀y∈es,∃ys,cY P n e ys/\y=(if eJ P e then .a ys else ys.headD .ud)|some (.struct fs)=>fs.toList.foldr (fun f K xs=>∃a b,xs=a++b/\cY P n f.type a/\K b) (fun xs=>xs=[]) xs|_=>False
def kA (P:Program):Nat->List Field->Option Nat
 |off,[]=>some off|off,f::r=>if f.offset=off then kA P (off+P.cellsOf f.type) r else none
def bL0 {α β:Type}{f:α->Option β}:∀{l:List α} {r:List β},l.mapM f=some r->r.length=l.length/\∀(i:Nat) x,l[i]? =some x->f x=r[i]?
 |[],r,h=>by simp at h;subst h;simp|x::l,r,h=>by rw[List.mapM_cons] at h;simp only[bind,bL,pure,aH] at h;obtain⟨y,hy,ys,Aq,rfl⟩:=h;obtain⟨h1,h2⟩:=bL0 Aq;refine⟨by simp[h1],fun i z hz=> ?_⟩;cases i with|zero=>simp at hz;subst hz;simpa using hy|succ i=>simpa using h2 i z (by simpa using hz)
section
variable {H:Type} {enc:TypeId×Value->H} {P:Program} {w:World} {spare:Nat->Bool} {held:Bool}
def eW6 {a:Addr}{n:Nat}{cs:List Value}(h:w.cells? 0 a n=some cs):cs.length=n/\∀(j:Nat) u,cs[j]? =some u->w.cell? (a.add j)=some u:=by
 unfold World.cells? at h;split at h;obtain⟨h1,h2⟩:=bL0 h;refine⟨by simpa using h1,fun j u hj=> ?_⟩;have bE:j<n:=by have:=(fE.1 hj).1;rw[h1] at this;simpa using this
 exact(h2 j j (by simp[bE])).trans hj;cases h
def Y2 {a:Addr}{k:Nat}{G:V->List V->Prop}:∀(len:Nat),(∀i,i<len->∃(cs:List Value) (ys:List V) (y:V),w.cells? 0 (a.add (i*k)) k=some cs/\aX (dS w) w cs ys/\(∀x∈ys,x.cell=true)/\y.cells=ys/\G y ys)->
  ∃(vs:List Value) (es:List V),es.length=len/\aX (dS w) w vs (cL es)/\(∀x∈cL es,x.cell=true)/\(∀e∈es,e.cells.length=k/\G e e.cells)/\vs.length=len*k/\∀(j:Nat) u,vs[j]? =some u->w.cell? (a.add j)=some u
 |0,_=>⟨[],[],rfl,aX.nil,by simp[cL],by simp,by simp,by simp⟩|len+1,h=>by obtain⟨vs,es,h1,h2,h3,h4,h5,h6⟩:=Y2 len fun i hi=>h i (by omega);obtain⟨cs,ys,y,g1,g2,g3,g4,g5⟩:=h len (by omega);obtain⟨g6,g7⟩:=eW6 g1;subst g4;refine⟨vs++cs,es++[y],by simp[h1],?_,fun x hx=> ?_,fun e he=> ?_,by rw[kH,h5,g6,CM],fun j u hj=> ?_⟩;rw[BH];exact h2.append (by simpa[cL] using g2);rw[BH] at hx;rcases iC.1 hx with hx|hx;exact h3 x hx;exact g3 x (by simpa[cL] using hx);rcases iC.1 he with he|he;exact h4 e he;simp only[uQ] at he;subst he;exact⟨by rw[<-g2.1,g6],g5⟩;rw[List.getElem?_append] at hj;split at hj;exact h6 j u hj;have:=g7 _ u hj;rw[EQ] at this;rwa[show len*k+(j - vs.length)=j from by rw[<-h5];omega] at this
end
end Go.VM
namespace Go.VM
open Go.RowKit Go.ChangeShapes Go.WideShapes
variable [cB]
section
variable {H:Type} {enc:TypeId×Value->H} {P:Program}
def Bi (P:Program)(t:TypeId)(ys:List V):V:=if eJ P t then .a ys else ys.headD .ud
def bI4 {w:World}{r:Reach}{b:Nat}{t:TypeId}{v:Value}(h:Value.okWide P w r b t v)(hn:eJ P t=false):v.cells= #[v]:=by
 have hc:Cell.okWide P w r b t v:=by unfold Value.okWide at h;unfold eJ at hn;split at h<;>simp_all
 cases v with|agg cs=>exfalso;unfold Cell.okWide at hc;split at hc<;>simp_all[Cell.ok]|_=>rfl
def Xs {W W':World}{sp:Nat->Bool}(hl:laidOutB P=true)(hb:Below W.heap.size W W')(rE:∀b,b<W.heap.size->sp b=true):∀{ts:List TypeId} {vs:List Value} {ds:List (DataW H)} {ps:List MemPlace},(∀t∈ts,P.readableRec t=true/\t<P.types.size)->(∀p∈ps,p.block<W.heap.size)->
  DataW.TrodAll enc P W 0 (fun _=>true) true ts vs ds ps->DataW.TrodAll enc P W' 0 sp true ts vs ds ps
 |[],vs,ds,ps,_,_,h=>by obtain⟨rfl,rfl,rfl⟩:=trodAll_nil h;exact rfl
 |t::ts,vs,ds,ps,hp,bE,h=>by obtain⟨v,dU,d,ds',a,c,rfl,rfl,rfl,h1,h2⟩:=trodAll_cons h;obtain⟨hr,hrow⟩:=hp t (dC ..);refine⟨a,c,WideElems.Trod_stays hl hr hrow h1 (fun x hx=>hb.same (bE x (oG _ hx))) (fun x hx=>rE _ (bE x (oG _ hx))),?_,rfl⟩;exact Xs hl hb rE (fun t ht=>hp t (dL _ ht)) (fun p hp=>bE p (rK _ hp)) h2
def bG4 {f:Func}{s:ChangeSpec}{fresh handsOn again:Bool}{W W':World}{args:Array Value}{ds gs:List (DataW H)}{before:List MemPlace}(hW:DataW.Whole enc P f.params.toList s.vars false W args.toList ds gs before)(hb:Below W.heap.size W W')(hl:laidOutB P=true)
  (hp:∀t∈f.params.toList,P.readableRec t=true/\t<P.types.size){tb:TypeId}(eA:f.resultTypes= #[tb])(htb:P.underlying tb=some .bool)(Gs:s.vars=[])(Cm:s.fn H ds={results:=[.lit (.bool true)],args:=ds}):
  s.post enc P f false fresh handsOn again W args (.bool true) W':=by
 have hWl:=hW.lt;obtain⟨p,q,hA,hV,rfl,AI,lY⟩:=hW;rw[Gs] at hV;obtain⟨rfl,rfl⟩:=trodVars_none hV;have hplt:∀x∈p,x.block<W.heap.size:=fun x hx=>hWl x (by simpa using hx);have hres0:∀(b:Nat) (sp:Nat->Bool) (hd:Bool),DataW.TrodAll enc P W' b sp hd f.resultTypes.toList ((Value.bool true).resultList f.resultTypes.size) [.lit (.bool true)] []:=fun b sp hd=>by rw[eA];exact trodAll_mk1 (shut_bool htb true)
 have Cp:DataW.Whole enc P f.params.toList s.vars false W args.toList ds [] (p++[]):=⟨p,[],hA,by rw[Gs];exact hV,rfl,AI,lY⟩;have hfn':s.fn H (ds++[])={results:=[.lit (.bool true)],args:=ds}:=by rw[A4];exact Cm
 refine⟨ds,[],p++[],[],p,[],Cp,?_,?_,?_,?_,fun _=>⟨?_,?_⟩⟩;rw[hfn'];exact hres0 _ _ _;rw[hfn'];exact Xs hl hb (fun b fD=>by simpa using fD) hp hplt hA;rw[hfn',Gs];exact rfl;refine⟨hb.os,hb.output,fun i hi=> ?_⟩;rw[hb.block i hi];cases W.heap[i]? with|none=>trivial|some o=>cases o<;>simp
 intro j t r h1 h2;rw[eA] at h1 h2;cases j with|zero=>simp at h1;subst h1;simp[Value.resultList] at h2;subst h2;exact okWide_bool_mk htb true|succ j=>simp at h1
 refine⟨[.lit (.bool true)]++ds,[],([]++p)++[],⟨[]++p,[],trodAll_append (Xs hl hb (fun _ _=>rfl) hp hplt hA) (hres0 _ _ _),by rw[Gs];exact rfl,rfl,?_,by simp⟩,?_⟩;intro b off hx;have lX:MemPlace.cell b off∈p:=by simpa using hx
 have:=AI b off (by simpa using lX);rw[<-this];have bE:=hplt _ lX;exact World.frozen?_of_block (hb.block b bE);intro x hx _;simpa using hx
end
end Go.VM
namespace Go.VM
open Go.RowKit Go.ChangeShapes Go.WideShapes
variable [cB]
def bG7 (P:Program)(L:List TypeId)(t:TypeId):Bool:=match P.underlying t with|some .bool|some (.int _)|some .string=>P.cellsOf t==1|some (.slice e)=>P.cellsOf t==1&&decide (0<P.cellsOf e)&&L.contains e&&(eJ P e||P.cellsOf e==1)|some (.struct fs)=>(kA P 0 fs.toList==some (P.cellsOf t))&&fs.toList.all fun f=>L.contains f.type|_=>false
def Yx (P:Program)(L:List TypeId):Bool:=L.all (bG7 P L)
def cZ1 (P:Program)(t:TypeId):List TypeId:=match P.underlying t with|some (.slice e)=>[e]|some (.struct fs)=>fs.toList.map (·.type)|_=>[]
def WS (P:Program):Nat->List TypeId->List TypeId
 |0,L=>L|n+1,L=>WS P n ((L++L.flatMap (cZ1 P)).eraseDups)
def O3 (P:Program)(t:TypeId):Bool:=let L:=WS P 10 [t];Yx P L&&L.contains t
def bG6 {P:Program}{t:TypeId}(h:O3 P t=true):Yx P (WS P 10 [t])=true/\(WS P 10 [t]).contains t=true:=by simpa only[O3,fA] using h
section
variable {H:Type} {enc:TypeId×Value->H} {P:Program} {w:World} {spare:Nat->Bool} {held:Bool}
def cN8 {L:List TypeId}(hL:Yx P L=true):∀(fuel:Nat) (t:TypeId) (cs:List Value) (x:DataW H×List MemPlace),L.contains t=true->DataW.trod enc P w 0 spare held fuel t cs=some x->
  ∃xs,aX (dS w) w cs xs/\(∀y∈xs,y.cell=true)/\(∀n,cY P n t xs)/\cs.length=P.cellsOf t:=by
 intro fuel;induction fuel using Nat.strongRecOn with
 |_ fuel Nz=>
  intro t cs x hp h;have hp:=eM.1 hL t (by simpa using hp);unfold bG7 at hp;split at hp;rename_i hu;obtain⟨b,rfl,_⟩:=DataW.trod_bool hu h;exact⟨[.b b],aX.cons (.b b) aX.nil,by simp[V.cell],fun n=>by cases n with |zero=>trivial|succ n=>unfold cY;rw[hu];exact⟨b,rfl⟩,by simp at hp;simp[hp]⟩;rename_i k hu;obtain⟨m,rfl,_,hw⟩:=DataW.trod_int hu h;exact⟨[.i k m],aX.cons (.i k m) aX.nil,by simp[V.cell],fun n=>by cases n with |zero=>trivial|succ n=>unfold cY;rw[hu];exact⟨m,rfl,hw⟩,by simp at hp;simp[hp]⟩;rename_i hu;obtain⟨s,rfl,_,hs⟩:=DataW.trod_string hu h;exact⟨[.s s.data.toList],aX.cons (.s s) aX.nil,by simp[V.cell],fun n=>by cases n with |zero=>trivial|succ n=>unfold cY;rw[hu];exact⟨_,rfl,by simpa using hs⟩,by simp at hp;simp[hp]⟩
  ·rename_i e hu;simp only[fA,pM] at hp;obtain⟨⟨⟨oE,lE⟩,hpe⟩,I4⟩:=hp;rcases DataW.trod_slice hu h with⟨rfl,_⟩|⟨a,len,cap,elems,rest,m,hfm,rfl,_,_,hlc,tB,iR,MO,_⟩;exact⟨[.l []],aX.cons (.l0 none 0) aX.nil,by simp[V.cell],fun n=>by cases n with |zero=>trivial|succ n=>unfold cY;rw[hu];exact⟨[],rfl,A6 _,by simp⟩,by simp[oE]⟩
   ·have hrow:=Y2 (w:=w) (a:=a) (k:=P.cellsOf e) (G:=fun y ys=>(∀n,cY P n e ys)/\y=(if eJ P e then .a ys else ys.headD .ud)) len fun i hi=>by
     have kO:=MO i hi;rw[eI (by omega:i<elems.length)] at kO;simp only[bL] at kO;obtain⟨ci,hci,Cf⟩:=kO;obtain⟨ys,hr,dG,hf,hl⟩:=Nz m (by omega) e ci _ hpe Cf;cases ha:eJ P e with
     |true=>exact⟨ci,ys,.a ys,hci,hr,dG,rfl,hf,by simp⟩
     |false=>
      rw[ha] at I4;simp only[qW,false_or,tK,pM] at I4
      match ys,hr,dG,hf with
      |[],hr,_,_=>have:=hr.1;rw[hl,I4] at this;simp at this|[y],hr,dG,hf=>refine⟨ci,[y],y,hci,hr,dG,?_,hf,by simp⟩;have:=dG y (dC ..);cases y<;>first |rfl|(simp[V.cell] at this;done)
      |_::_::_,hr,_,_=>have:=hr.1;rw[hl,I4] at this;simp at this
    obtain⟨vs,es,g1,g2,g3,g4,g5,g6⟩:=hrow;refine⟨[.l es],?_,by simp[V.cell],?_,by simp[oE]⟩;refine aX.cons ?_ aX.nil;rw[<-g1];by_cases bM:es=[];subst bM;exact .l0 _ _;refine aP.mk_slice (fun e he=>(g4 e he).1) g3 g2 (by rw[g1];exact hlc) (.inr ⟨a,rfl,?_,g6⟩);have jP:vs≠[]\/vs=[]:=(Classical.em (vs=[])).symm;rcases jP with jP|jP;obtain⟨u,us,rfl⟩:=List.exists_cons_of_ne_nil jP;have:=g6 0 u rfl;have hb:=World.block_lt_of_cell? w _ this;rw[wZ] at hb;exact hb;have hl:0<es.length:=QF.2 bM;have:0<len*P.cellsOf e:=Nat.mul_pos (by omega) (by simpa using lE);rw[<-g5,jP] at this;simp at this;intro n;cases n with|zero=>trivial|succ n=>unfold cY;rw[hu];exact⟨es,rfl,by rw[g1];omega,fun y hy=>⟨y.cells,(g4 y hy).2.1 n,(g4 y hy).2.2⟩⟩
  rename_i fs hu;simp only[fA,pM] at hp;obtain⟨MR,eG⟩:=hp;obtain⟨xs,m,hfm,rfl,bT,kV,hf⟩:=DataW.trod_struct hu h;have key:∀(l:List Field) (off gM:Nat),kA P off l=some gM->(∀f∈l,L.contains f.type=true/\∃x,DataW.trod enc P w 0 spare held m f.type ((cs.drop f.offset).take (P.cellsOf f.type))=some x)->gM<=cs.length->
    off<=gM/\∃ys,aX (dS w) w ((cs.drop off).take (gM - off)) ys/\(∀y∈ys,y.cell=true)/\∀n,l.foldr (fun f K xs=>∃a b,xs=a++b/\cY P n f.type a/\K b) (fun xs=>xs=[]) ys:=by
   intro l;induction l with
   |nil=>intro off gM hc _ _;simp only[kA,aH] at hc;subst hc;exact⟨dD _,[],by simpa using aX.nil,by simp,fun _=>rfl⟩
   |cons f l ih=>
    intro off gM hc hl ht;simp only[kA] at hc;split at hc;rename_i ho;obtain⟨h1,ys,h2,h3,h4⟩:=ih _ gM hc (fun g hg=>hl g (dL _ hg)) ht;obtain⟨eF,x,hx⟩:=hl f (dC ..);obtain⟨zs,g1,g2,g3,g4⟩:=Nz m (by omega) f.type _ x eF hx;rw[ho] at g1;refine⟨by omega,zs++ys,?_,fun y hy=> ?_,fun n=>⟨zs,ys,rfl,g3 n,h4 n⟩⟩;have:(cs.drop off).take (gM - off)=(cs.drop off).take (P.cellsOf f.type)++(cs.drop (off+P.cellsOf f.type)).take (gM - (off+P.cellsOf f.type)):=by rw[show gM - off=P.cellsOf f.type+(gM - (off+P.cellsOf f.type)) from by omega,List.take_add,m3]
    rw[this];exact g1.append h2;rcases iC.1 hy with hy|hy;exact g2 y hy;exact h3 y hy;cases hc
  obtain⟨_,ys,h2,h3,h4⟩:=key fs.toList 0 (P.cellsOf t) MR (fun f hfm=>by
   refine⟨eM.1 eG f hfm,?_⟩;obtain⟨i,hi,rfl⟩:=lH hfm;have kO:i<fs.size:=by simpa using hi
   have:=hf i fs[i] (sL kO);rw[eI (by omega:i<xs.length)] at this;exact⟨_,by simpa using this⟩) (by omega)
  refine⟨ys,?_,h3,?_,bT⟩;have:=h2;simp only[JK,QM] at this;rwa[rM (by omega)] at this;intro n;cases n with|zero=>trivial|succ n=>unfold cY;rw[hu];exact h4 n
  cases hp
end
section
variable {H:Type} {enc:TypeId×Value->H} {P:Program}
def T7 (P:Program)(N:Nat):List TypeId->List V->Prop
 |[],xs=>xs=[]|t::ts,xs=>∃ys r,xs=Bi P t ys::r/\cY P N t ys/\T7 P N ts r
def cN6 (N:Nat){w:World}{r:Reach}{b:Nat}{t:TypeId}{v:Value}{d:DataW H}{ps:List MemPlace}{sp:Nat->Bool}{held:Bool}(hp:O3 P t=true)(lL:Value.okWide P w r b t v)(h:DataW.Trod enc P w 0 sp held t v d ps):
  ∃ys,cY P N t ys/\aP (dS w) w v (Bi P t ys):=by
 obtain⟨fuel,h⟩:=h;obtain⟨ys,hr,hc,hf,hl⟩:=cN8 (bG6 hp).1 fuel t _ _ (bG6 hp).2 h;have hf:=hf N;refine⟨ys,hf,?_⟩;unfold Bi;cases ha:eJ P t with
 |true=>
  have:∃cs,v= .agg cs:=by unfold Value.okWide at lL;unfold eJ at ha;split at lL;obtain⟨cs,h,_⟩:=lL;exact⟨cs,h⟩;obtain⟨cs,h,_⟩:=lL;exact⟨cs,h⟩;split at ha<;>simp_all
  obtain⟨cs,rfl⟩:=this;have:=aP.mk_agg hc (show aX (dS w) w cs.toList ys from hr);simpa using this
 |false=>
  rw[bI4 lL ha] at hr
  match ys,hr with|[],hr=>exact absurd hr.1 (by simp)|[y],hr=>simpa using hr.head|_::_::_,hr=>exact absurd hr.1 (by simp)
def aU4 (N:Nat){w:World}{r:Reach}{b:Nat}{sp:Nat->Bool}{held:Bool}:∀{ts:List TypeId} {vs:List Value} {ds:List (DataW H)} {ps:List MemPlace},(∀t∈ts,O3 P t=true)->(∀(j:Nat) t v,ts[j]? =some t->vs[j]? =some v->Value.okWide P w r b t v)->
  DataW.TrodAll enc P w 0 sp held ts vs ds ps->∃xs,T7 P N ts xs/\aX (dS w) w vs xs
 |[],vs,ds,ps,_,_,h=>by obtain⟨rfl,_,_⟩:=trodAll_nil h;exact⟨[],rfl,aX.nil⟩
 |t::ts,vs,ds,ps,hp,hv,h=>by obtain⟨v,dU,d,ds',a,c,rfl,rfl,rfl,h1,h2⟩:=trodAll_cons h;obtain⟨ys,hf,hr⟩:=cN6 N (hp t (dC ..)) (hv 0 t v rfl rfl) h1;obtain⟨xs,hfs,nC⟩:=aU4 N (fun t ht=>hp t (dL _ ht)) (fun j t v ht dZ=>hv (j+1) t v (by simpa using ht) (by simpa using dZ)) h2;exact⟨_,⟨ys,xs,rfl,hf,hfs⟩,aX.cons hr nC⟩
def bY3 (N:Nat){f:FuncId}{fn:Func}{s:ChangeSpec}{fresh handsOn again:Bool}(hl:laidOutB P=true)(hp:∀t∈fn.params.toList,P.readableRec t=true/\t<P.types.size)(R3:∀t∈fn.params.toList,O3 P t=true)
  {tb:TypeId}(eA:fn.resultTypes= #[tb])(htb:P.underlying tb=some .bool)(Gs:s.vars=[])(Cm:∀ds:List (DataW H),ds.length=fn.params.toList.length->s.fn H ds={results:=[.lit (.bool true)],args:=ds})
  (hPF:∀xs,T7 P N fn.params.toList xs->PF P f xs (.b true)){r:Reach}{W:World}{aD:Nat}{args:Array Value}{ds gs:List (DataW H)}{before:List MemPlace}
  (lL:∀(j:Nat) t v,fn.params[j]? =some t->args[j]? =some v->Value.okWide P W r aD t v)(hW:DataW.Whole enc P fn.params.toList s.vars false W args.toList ds gs before)(hG:mV (dS W) W):
  Calls P f args W fun e W'=>∃v,e= .returned v/\s.post enc P fn false fresh handsOn again W args v W':=by
 obtain⟨p,q,hA,RZ⟩:=hW;obtain⟨xs,Az,IX⟩:=aU4 N R3 (fun j t v ht hv=>lL j t v (by simpa using ht) (by simpa using hv)) hA;have bT:∀{ts:List TypeId} {vs:List Value} {ds:List (DataW H)} {ps:List MemPlace},DataW.TrodAll enc P W 0 (fun _=>true) true ts vs ds ps->ds.length=ts.length:=by
  intro ts;induction ts with
  |nil=>intro vs ds ps h;obtain⟨_,rfl,_⟩:=trodAll_nil h;rfl
  |cons t ts ih=>intro vs ds ps h;obtain⟨v,dU,d,ds',a,c,rfl,rfl,rfl,_,h2⟩:=trodAll_cons h;simp[ih h2]
 have:=hPF xs Az (dS W) W args.toList (fun _ h=>h) hG IX;simp only[Array.toArray_toList] at this;refine this.mono fun e W' ⟨v,he,hb,S',_,_,hr⟩=>⟨v,he,?_⟩;have hv:v= .bool true:=(mJ.val hr (by rfl)).val (by rfl);subst hv;exact bG4 ⟨p,q,hA,RZ⟩ hb hl hp eA htb Gs (Cm ds (bT hA))
end
end Go.VM
