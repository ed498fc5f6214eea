/-
The evaluator and its soundness: part of the proof of the last text.
-/
import Derived.Test.YtdlpbedneamebaaGreatDoorVA
set_option linter.all false
namespace Go.VM
open Go.RowKit
variable [cB]
section
variable {P:Program} {o:aU} {aA:aG} {bB:List Oper} {isF:List QI} {a0:Act} {dF:List (Tmp×Nat)} {draw:Bool}
def N3 (bB:List Oper)(n:Nat)(defs:List (Tmp×Nat)):Prop:=∀t j,pI defs t=some j->j<n/\(bB[j]?).bind (·.dst)=some t
def T9 (bB:List Oper)(n:Nat)(defs:List (Tmp×Nat)):Prop:=∀j t,j<n->(bB[j]?).bind (·.dst)=some t->pI defs t≠none
def N3.cons {n:Nat}{defs:List (Tmp×Nat)}(h:N3 bB n defs){d:Tmp}(hd:(bB[n]?).bind (·.dst)=some d):N3 bB (n+1) ((d,n)::defs):=by intro t j ht;rw[SC] at ht;split at ht;rename_i e;cases ht;subst e;exact⟨by omega,hd⟩;have:=h t j ht;exact⟨by omega,this.2⟩
def T9.cons {n:Nat}{defs:List (Tmp×Nat)}(h:T9 bB n defs){d:Tmp}(hd:(bB[n]?).bind (·.dst)=some d):T9 bB (n+1) ((d,n)::defs):=by intro j t hj ht;rw[SC];split;simp;rename_i bM;by_cases hjn:j=n;subst hjn;rw[hd] at ht;cases ht;exact absurd rfl bM;exact h j t (by omega) ht
def Yk:∀(r:List Oper) (defs:List (Tmp×Nat)) (is iF:List QI),tX P draw bB r defs is=some (dF,iF)->bB.drop is.length=r->N3 bB is.length defs->T9 bB is.length defs->
  (N3 bB bB.length dF/\T9 bB bB.length dF)/\∀(i:Nat) op,is.length<=i->bB[i]? =some op->∃defs' d q,op.dst=some d/\Ri bB defs' op.guard=true/\Gg P draw defs' (iF.take i) op=some q/\Lm (iF.take i) q=true/\iF[i]? =some q/\i<iF.length/\N3 bB i defs'
 |[],defs,is,iF,h,yE,h1,h2=>by
  simp only[tX,aH,cM] at h;obtain⟨rfl,rfl⟩:=h;have bT:bB.length<=is.length:=by simpa using yE
  refine⟨⟨fun t j ht=> ?_,fun j t hj=>h2 j t (by omega)⟩,fun i op hi ho=> ?_⟩;have:=h1 t j ht;refine⟨?_,this.2⟩;cases hoj:bB[j]? with|none=>rw[hoj] at this;simp at this|some _=>exact(fE.1 hoj).1
  have:=(fE.1 ho).1;omega
 |op::r,defs,is,iF,h,yE,h1,h2=>by
  obtain⟨d,q,hd,cR,hq,qN,mF⟩:=OY h;obtain⟨hat,Co⟩:=Ib yE;obtain⟨tl,kW,_⟩:=OX _ _ _ _ _ mF;have nS:(bB[is.length]?).bind (·.dst)=some d:=by rw[hat];exact hd
  have bT:(is++[q]).length=is.length+1:=by simp
  obtain⟨hF,RZ⟩:=Yk r _ (is++[q]) iF mF (by rw[bT];exact Co) (by rw[bT];exact h1.cons nS) (by rw[bT];exact h2.cons nS);refine⟨hF,fun i eX hi ho=> ?_⟩;by_cases kO:i=is.length;subst kO;rw[hat] at ho;cases ho;have Bs:iF.take is.length=is:=by rw[kW,AZ,List.take_left]
  refine⟨defs,d,q,hd,cR,by rw[Bs];exact hq,by rw[Bs];exact qN,?_,?_,h1⟩;rw[kW,BU (by simp)];simp;rw[kW];simp;exact RZ i eX (by rw[bT];omega) ho
def bH8 {is:List QI}(h:RA bB is=true){i:Nat}{op:Oper}{q:QI}(ho:bB[i]? =some op)(hq:is[i]? =some q):
  (∀j∈eD op,j<i)/\(∀s∈q.srcs,∀j,s=some j->j∈eD op)/\(∀g b,op.guard=some (g,b)->g∈eD op)/\∀t∈xZ q.x,∀(k:Nat) o',bB[k]? =some o'->o'.dst=some t->i∈eD o':=by
 unfold RA at h;simp only[fA] at h;have hi:=(fE.1 ho).1;have h1:=eM.1 h.2 i (nH.2 hi);rw[ho,hq] at h1;simp only[fA] at h1;obtain⟨⟨⟨h2,h3⟩,h4⟩,h5⟩:=h1;refine⟨fun j hj=>by simpa using eM.1 h2 j hj,fun s hs j hj=> ?_,fun g b hg=> ?_,fun t ht k o' hk hd=> ?_⟩;subst hj;simpa using eM.1 h3 _ hs;rw[hg] at h4;simpa using h4;have h6:=eM.1 (eM.1 h5 t ht) k (nH.2 (fE.1 hk).1);rw[hk] at h6;simp only[tK,D3] at h6;rcases h6 with h6|h6;exact absurd hd h6;simpa using h6
def bU (listed:Array Bool):Nat->Prop:=fun k=>listed.getD k false=true
def kP {listed:Array Bool}{i:Nat}(hi:i<listed.size)(k:Nat):bU (listed.setIfInBounds i true) k↔(k=i\/bU listed k):=by unfold bU;simp only[vP,BT];by_cases h:i=k;subst h;simp[hi];rw[aK h];constructor;exact .inr;rintro(rfl|h');exact absurd rfl h;exact h'
def Jy {aJ:Array Oper}{listed:Array Bool}(hs:listed.size=aJ.size){i:Nat}(h:i∈Region.ready .any aJ listed):∃op,aJ[i]? =some op/\¬bU listed i/\∀j∈eD op,bU listed j:=by
 unfold Region.ready at h;rw[vS] at h;obtain⟨h1,h2⟩:=h;have hi:i<aJ.size:=nH.1 h1;simp only[fA,sL hi,eB,GQ] at h2;refine⟨aJ[i],sL hi,fun he=> ?_,fun j hj=> ?_⟩;have h3:=h2.1;unfold bU at he;have kO:i<listed.size:=by omega
 simp only[vP,sL kO,GQ] at h3 he;rw[he] at h3;cases h3;unfold eD at hj;obtain⟨e,he,rfl⟩:=jL.1 hj;rw[vS] at he;have:=Array.all_eq_true'.1 h2.2 e (by simpa using he.1);simp only[tK,LB] at this;rcases this with h|h;rw[he.2] at h;cases h;exact h
def VX {aJ:Array Oper}{listed:Array Bool}(hs:listed.size=aJ.size)(pG:∀(i:Nat) op,aJ[i]? =some op->∀j∈eD op,j<i)(h:Region.ready .any aJ listed=[]):∀i,i<aJ.size->bU listed i:=by
 intro i;induction i using Nat.strongRecOn with
 |_ i ih=>
  intro hi;cases he:listed.getD i true with
  |true=>
   unfold bU;have kO:i<listed.size:=by omega
   simp only[vP,sL kO,GQ] at he⊢;exact he
  |false=>
   exfalso;have:i∈Region.ready .any aJ listed:=by
    unfold Region.ready;rw[vS];refine⟨nH.2 hi,?_⟩;rw[he,sL hi];simp only[Bool.not_false,QB,eB,GQ];rw[Array.all_eq_true'];intro e hem;simp only[tK,LB];cases hb:Region.binds .any e with
    |false=>exact .inl rfl
    |true=>
     right;have hj:e.on∈eD aJ[i]:=by unfold eD;exact jL.2 ⟨e,vS.2 ⟨by simpa using hem,hb⟩,rfl⟩
     have:=pG i _ (sL hi) _ hj;exact ih _ this (by omega)
   rw[h] at this;cases this
def Kv (o:aU)(aA:aG)(bB:List Oper)(isF:List QI)(a0:Act)(listed:Array Bool)(a:Act)(w:World):Prop:=
 a.tmps.size=a0.tmps.size/\a.defers=a0.defers/\(∀t,(∀k,bU listed k->(bB[k]?).bind (·.dst)≠some t)->a.tmps[t]? =a0.tmps[t]?)/\
 (∀(k:Nat) op d q,bU listed k->bB[k]? =some op->op.dst=some d->isF[k]? =some q->(GH o aA isF q.g->∀v,dJ o aA q.x=some v->∃u,a.tmps[d]? =some u/\aP (dS w) w u v)/\(¬GH o aA isF q.g->∀b,a.tmps[d]?≠some (.bool b)))/\
 ∀(k:Nat) op,bU listed k->bB[k]? =some op->∀j∈eD op,bU listed j
def Kv.qinv {listed:Array Bool}{a:Act}{w:World}(h:Kv o aA bB isF a0 listed a w){defs:List (Tmp×Nat)}{n:Nat}(hd:N3 bB n defs)(hn:n<=isF.length):
  GF o aA isF a0 (bU listed) (fun t=>∀k,bU listed k->(bB[k]?).bind (·.dst)≠some t) (dS w) defs (isF.take n) a w:=by
 obtain⟨h1,h2,h3,h4,h5⟩:=h;have bT:(isF.take n).length=n:=by simp;omega
 refine⟨h1,h2,fun j hj=> ?_,by simp;omega,fun t=> ?_⟩;rw[bT] at hj;rw[qE,aY hj];split;exact h3 t;rename_i j hj;obtain⟨hjn,nS⟩:=hd t j hj;have hq:isF[j]? =some isF[j]:=eI (by omega);cases ho:bB[j]? with|none=>rw[ho] at nS;cases nS|some op=>rw[ho] at nS;refine⟨isF[j],by rw[qE,aY hjn];exact hq,fun he hg v hv=>(h4 j op t _ he ho nS hq).1 hg v hv,fun he hg b=>(h4 j op t _ he ho nS hq).2 hg b⟩
def Kv.step {listed:Array Bool}{a:Act}{w w1:World}(h:Kv o aA bB isF a0 listed a w)(lY:(bB.filterMap (·.dst)).Nodup)(hb:Below w.heap.size w w1){i:Nat}{op:Oper}{d:Tmp}{q:QI}(hi:i<listed.size)(ho:bB[i]? =some op)(nS:op.dst=some d)(hq:isF[i]? =some q)(bE:d<a0.tmps.size)
  (fV:∀j∈eD op,bU listed j)(u:Value)(hu:GH o aA isF q.g->∀v,dJ o aA q.x=some v->aP (dS w1) w1 u v)(hn:¬GH o aA isF q.g->∀b,u≠ .bool b):Kv o aA bB isF a0 (listed.setIfInBounds i true) (a.put (some d) u) w1:=by
 obtain⟨h1,h2,h3,h4,h5⟩:=h;have fQ:∀t,(a.put (some d) u).tmps[t]? =if t=d then some u else a.tmps[t]? :=fun t=>by simp only[Act.put];by_cases ht:t=d;subst ht;simp[h1,bE];rw[aK ht,BT,aK (fun e=>ht e.symm)]
 have Gt:∀(k:Nat) eX,bB[k]? =some eX->eX.dst=some d->k=i:=by
  intro k eX hk gU;have key:∀(l:List Oper) (i k:Nat) (o1 o2:Oper),(l.filterMap (·.dst)).Nodup->l[i]? =some o1->l[k]? =some o2->o1.dst=some d->o2.dst=some d->k=i:=by
   intro l;induction l with
   |nil=>intro i k o1 o2 _ h;simp at h
   |cons x l ih=>
    intro i k o1 o2 lY h1 h2 hd1 EE;have As:∀(m:Nat) o',l[m]? =some o'->o'.dst=some d->d∈l.filterMap (·.dst):=fun m o' hm hd=>List.mem_filterMap.2 ⟨o',k6 hm,hd⟩
    cases i with
    |zero=>simp at h1;subst h1;cases k with|zero=>rfl|succ k=>simp at h2;rw[X1,hd1] at lY;exact absurd (As k o2 h2 EE) (JM.1 lY).1
    |succ i=>
     simp at h1;cases k with
     |zero=>simp at h2;subst h2;rw[X1,EE] at lY;exact absurd (As i o1 h1 hd1) (JM.1 lY).1
     |succ k=>
      simp at h2;have hnd':(l.filterMap (·.dst)).Nodup:=by rw[X1] at lY;split at lY;exact lY;exact(JM.1 lY).2
      rw[ih i k o1 o2 hnd' h1 h2 hd1 EE]
  exact key bB i k op eX lY ho hk nS gU
 refine⟨by simpa[Act.put] using h1,h2,fun t ht=> ?_,fun k eX d' q' he hk gU dE=> ?_,fun k eX he hk j hj=> ?_⟩;have htd:t≠d:=fun e=>by subst e;exact ht i ((kP hi i).2 (.inl rfl)) (by rw[ho];exact nS)
 rw[fQ,aK htd];exact h3 t fun k hk=>ht k ((kP hi k).2 (.inr hk));by_cases kY:k=i;subst kY;rw[ho] at hk;cases hk;rw[nS] at gU;cases gU;rw[hq] at dE;cases dE;rw[fQ,aY rfl];exact⟨fun hg v hv=>⟨u,rfl,hu hg v hv⟩,fun hg b e=>hn hg b (by simpa using e)⟩;have uD:=((kP hi k).1 he).resolve_left kY;have hdd:d'≠d:=fun e=>by subst e;exact kY (Gt k eX hk gU)
 rw[fQ,aK hdd];obtain⟨g1,g2⟩:=h4 k eX d' q' uD hk gU dE;exact⟨fun hg v hv=>let ⟨u',cP,hr⟩:=g1 hg v hv;⟨u',cP,hr.move (dS.below hb) fun p hp=>hb.cell hp⟩,g2⟩;rcases(kP hi k).1 he with rfl|uD;rw[ho] at hk;cases hk;exact(kP hi j).2 (.inr (fV j hj));exact(kP hi j).2 (.inr (h5 k eX uD hk j hj))
def zB (listed:Array Bool):Nat:=listed.toList.countP (fun b=> !b)
def V9 {listed:Array Bool}{i:Nat}(hi:i<listed.size)(h:¬bU listed i):zB (listed.setIfInBounds i true)+1=zB listed:=by
 unfold zB bU at*;simp only[vP,sL hi,GQ,Bool.not_eq_true] at h;rw[Array.setIfInBounds,H2 hi,Array.toList_set];have key:∀(l:List Bool) (i:Nat) (hi:i<l.length),l[i]=false->(l.set i true).countP (fun b=> !b)+1=l.countP (fun b=> !b):=by intro l;induction l with|nil=>intro i hi;simp at hi|cons x l ih=>intro i hi hx;cases i with|zero=>simp at hx;subst hx;simp|succ i=>have:=ih i (by simpa using hi) (by simpa using hx);rw[X8,List.countP_cons,List.countP_cons];omega
 exact key listed.toList i (by simpa using hi) (by simpa using h)
def XF {listed:Array Bool}(h:zB listed=0)(i:Nat)(hi:i<listed.size):bU listed i:=by unfold zB at h;rw[List.countP_eq_zero] at h;unfold bU;simp only[vP,sL hi,GQ];have:=h listed[i] (by simp);simpa using this
def eR5 (ho:eL P o){Q:Exit->Act->World->Prop}(hD:∀(i:Nat) q,isF[i]? =some q->GH o aA isF q.g->∃v,dJ o aA q.x=some v)(mF:tX P false bB bB [] []=some (dF,isF))(MJ:RA bB isF=true)(bE:∀op∈bB,∀d,op.dst=some d->d<a0.tmps.size):
  ∀(fuel:Nat) (listed:Array Bool) (a:Act) (w:World),listed.size=bB.length->zB listed<=fuel->Kv o aA bB isF a0 listed a w->((∀n v,iH aA n=some v->∃u,a0.tmps[n]? =some u/\aP (dS w) w u v)/\mV (dS w) w)->
   (∀(listed:Array Bool) a' w',(∀i,i<bB.length->bU listed i)->Below w.heap.size w w'->Kv o aA bB isF a0 listed a' w'->Q .normal a' w')->wpAny P .any bB.toArray Q fuel listed a w:=by
 have hat:=(Yk bB [] [] isF mF (by simp) (fun t j h=>by simp[pI] at h) (fun j t h=>by simp at h)).2;have pG:∀(i:Nat) op,bB.toArray[i]? =some op->∀j∈eD op,j<i:=by
  intro i op aO;have kB:bB[i]? =some op:=by simpa using aO
  obtain⟨_,_,q,_,_,_,_,hq,_⟩:=hat i op (A6 _) kB;exact(bH8 MJ kB hq).1
 have lY:(bB.filterMap (·.dst)).Nodup:=by unfold RA at MJ;simp only[fA,uS] at MJ;exact MJ.1
 intro fuel;induction fuel with
 |zero=>intro listed a w hs oP hI hl hQ;have eG:∀i,i<bB.length->bU listed i:=fun i hi=>XF (by omega) i (by omega);refine⟨?_,hQ listed a w eG (cZ _ _) hI⟩;cases hr:Region.ready .any bB.toArray listed with|nil=>rfl|cons i r=>obtain⟨op,aO,bM,_⟩:=Jy (by simpa using hs) (show i∈Region.ready .any bB.toArray listed by rw[hr];exact dC ..);exact absurd (eG i (by have:=(j6.1 aO).1;simpa using this)) bM
 |succ fuel ih=>
  intro listed a w hs oP hI hl hQ;refine⟨fun hr=>hQ listed a w (fun i hi=>VX (by simpa using hs) pG hr i (by simpa using hi)) (cZ _ _) hI,fun i hi=> ?_⟩;obtain⟨op,aO,bM,fV⟩:=Jy (by simpa using hs) hi;have kB:bB[i]? =some op:=by simpa using aO
  have iJ:i<bB.length:=(fE.1 kB).1;have his:i<listed.size:=by omega
  obtain⟨defs,d,q,hd,cR,hq,qN,Bu,hiF,hdefs⟩:=hat i op (A6 _) kB;obtain⟨_,hsrcs,hgrd,hslots⟩:=bH8 MJ kB Bu;have bT:(isF.take i).length=i:=by simp;omega
  have hQI:=hI.qinv hdefs (by omega);have hg:=(VL (isF:=isF) (fun t j hd=>by rw[bT];exact(hdefs t j hd).1) (fun j hj=>by rw[bT] at hj;rw[qE,aY hj]) hq).2;have hw:=Xf hQI hD cR (fun g b hgb=>fV g (hgrd g b hgb));have hE:∀s∈q.srcs,∀j,s=some j->bU listed j:=fun s fR j hj=>fV j (hsrcs s fR j hj);have hR:∀t∈xZ q.x,∀k,bU listed k->(bB[k]?).bind (·.dst)≠some t:=by intro t ht k hk e;cases hok':bB[k]? with|none=>rw[hok'] at e;cases e|some o'=>rw[hok'] at e;exact bM (hI.2.2.2.2 k o' hk hok' i (hslots t ht k o' hok' e))
  have next:∀(u:Value) (w1:World),Below w.heap.size w w1->(GH o aA isF q.g->∀v,dJ o aA q.x=some v->aP (dS w1) w1 u v)->(¬GH o aA isF q.g->∀b,u≠ .bool b)->
    wpAny P .any bB.toArray Q fuel (listed.setIfInBounds i true) (a.put op.dst u) w1:=by
   intro u w1 hb hu hn;rw[hd];refine ih _ _ _ (by simpa using hs) ?_ (hI.step lY hb his kB hd Bu (bE op (k6 kB) d hd) fV u hu hn) ⟨fun n v hv=>let ⟨u,h1,h2⟩:=hl.1 n v hv;⟨u,h1,h2.move (dS.below hb) fun p hp=>hb.cell hp⟩,hl.2.move (dS.below hb) fun p hp=>hb.cell hp⟩
    (fun l a' w' eG fD F7=>hQ l a' w' eG (hb.trans (fD.mono hb.size)) F7)
   have:=V9 his bM;omega
  unfold wpOp;rw[aO];simp only;split
  ·rename_i r9;have nR:=hw.1 r9;rw[<-hg] at nR;obtain⟨v,hv⟩:=hD _ q Bu nR;left;refine f8.wp ?_;have:=bJ0 ho hQI hl hq qN nR hE hR hv;revert this;generalize (execOp a.eval op).run P w=res;intro eA;unfold f8 at eA⊢;split at eA
   ·exact next _ _ eA.1 (fun _ v' dZ=>by rw[hv] at dZ;cases dZ;exact eA.2) fun oD=>absurd nR oD
   ·exact next _ _ eA.1 (fun _ v' dZ=>by rw[hv] at dZ;cases dZ;exact eA.2) fun oD=>absurd nR oD
   ·refine eA.mono fun e w1 ⟨u,he,hb,hr⟩=>⟨u,he,?_⟩;exact next _ _ hb (fun _ v' dZ=>by rw[hv] at dZ;cases dZ;exact hr) fun oD=>absurd nR oD
   exact eA.elim
  ·rename_i r9;refine next undef w (cZ _ _) (fun nR=>absurd (hw.2 (hg▸nR)) r9) fun _ b e=> ?_
   simp[undef] at e
end
def dH8 {P:Program}{o:aU}(ho:eL P o)(hm:P.follows .mixedOrders=true){nt:Nat}{keep:List Nat}{S:Nat->Prop}{aD:Nat}{w0:World}{id:Nat}{aJ:Array Oper}{rs:List (Nat×X)}
  (h:Yd P nt keep aJ.toList=some rs){aA aN:aG}(Cj:wJ o aA rs aA=some aN){a:Act}{w:World}(hF:FI P nt keep S aD w0 aA a w){Q:Exit->Act->World->Prop}
  (hQ:∀a' w',FI P nt keep S aD w0 aN a' w'->Q .normal a' w'):(Code.region id aJ true).wp P Q a w:=by
 unfold Yd at h;cases mF:tX P false aJ.toList aJ.toList [] [] with
 |none=>rw[mF] at h;cases h
 |some p=>
  obtain⟨dF,isF⟩:=p;rw[mF] at h;simp only[aZ] at h;cases lD:IE dF isF (JQ keep aJ.toList) with
  |none=>rw[lD] at h;cases h
  |some p=>
   obtain⟨rs',js⟩:=p;rw[lD] at h;simp only[aZ] at h;split at h
   ·rename_i hc;cases h;simp only[fA] at hc;obtain⟨⟨hdem,MJ⟩,lA⟩:=hc;obtain⟨Im,cE,bK,hE⟩:=hF.ents;have gF:∀b,Im b->b<w.heap.size:=fun b hb=>(bK b hb).2;have hl:(∀n v,iH aA n=some v->∃u,a.tmps[n]? =some u/\aP (dS w) w u v)/\mV (dS w) w:=⟨fun n v hv=>RK hE gF hv,hE.glob.move gF fun _ _=>rfl⟩;have FR:=Yi _ _ _ _ _ mF (fun t j hd=>by simp[pI] at hd) (fun k q hk=>by simp at hk);obtain⟨iI,nP,hr3⟩:=Y5 lD;have MD:=Yp Cj;have hD:∀(i:Nat) q,isF[i]? =some q->GH o aA isF q.g->∃v,dJ o aA q.x=some v:=fun i q hq hg=>
     bW7 FR hdem (fun j hj q' dE=>by
      obtain⟨d,q2,h1,h2⟩:=hr3 j hj;rw[dE] at h1;cases h1;obtain⟨v,hv,_⟩:=MD _ h2;exact⟨v,hv⟩) _ i (dD _) q hq hg
    have bE:∀op∈aJ.toList,∀d,op.dst=some d->d<a.tmps.size:=fun op aO d hd=>by have:=eM.1 lA op aO;rw[hd] at this;rw[hF.size];simpa using this
    have FZ:∀(a':Act) (w1 w':World),Below w.heap.size w w'->ES o aA isF a (dS w1) dF isF a' w1->FI P nt keep S aD w0 aN a' w':=by
     intro a' w1 w' hb hQI;obtain⟨h1,h2,_,_,h4⟩:=hQI;have AO:=hE.move (w':=w') (fun _ h=>h) (fun n c g oC=>(cO.lt hE oC).2.2) (fun b fD=>hb.block b fD) gF;have MG:=Yq (T:=fun n=>a.tmps[n]?) (T':=fun n=>a'.tmps[n]?) Cj hF.srt AO (fun p hp v hv=>by
       obtain⟨_,j,q,hd,hq,hg,hx⟩:=iI p hp;have:=h4 p.1;rw[hd] at this;obtain⟨q',dE,hy,_⟩:=this;rw[hq] at dE;cases dE;rw[hx] at hv;obtain⟨u,hu,hr⟩:=hy trivial (by rw[hg];exact .top) v hv;obtain⟨v',dZ,fC⟩:=MD p hp;rw[hx,hv] at dZ;cases dZ;have kM:=(I9 hr).2.2;have KI:v.flat=true:=by cases v<;>first |exact fC|(simp[V.flat1] at fC;done)
       refine⟨u,hu,hr.of_flat KI,?_⟩;rcases kM with kM|⟨ys,rfl⟩;exact kM;simp[V.flat1] at fC) (fun n x hx=>by
       have:=h4 n;cases hd:pI dF n with
       |none=>rw[hd] at this;exact .inr (this trivial)
       |some j=>
        left;rcases Yj _ _ _ _ _ mF n j hd with⟨op,aO,nS⟩|⟨j',jH⟩;exact nP n (V1.2 ⟨(hF.keys n x hx).1,op,aO,nS⟩) (by rw[hd];simp);simp[pI] at jH)
     refine⟨MG.1,h1.trans hF.size,h2.trans hF.defers,hF.below.trans (hb.mono hF.bsz),(fun b nT=>(hb.block b (bK b (cE b nT)).2).trans (hF.kept b nT)),fG hF.bsz hb.size,fun n x hx=> ?_,Im,cE,fun b fD=>⟨(bK b fD).1,vU (gF b fD) hb.size⟩,MG.2.1⟩;rcases MG.2.2 n x hx with⟨y,hy⟩|⟨x',lX⟩;obtain⟨hw,_⟩:=iI _ hy;obtain⟨hk,op,aO,nS⟩:=V1.1 hw;exact⟨hk,by rw[<-hF.size];exact bE op aO n nS⟩;exact hF.keys n x' lX
    have hat:=Yk aJ.toList [] [] isF mF (by simp) (fun t j h=>by simp[pI] at h) (fun j t h=>by simp at h);have hlenF:isF.length=aJ.toList.length:=by obtain⟨tl,h1,h2⟩:=OX _ _ _ _ _ mF;rw[h1];simpa using h2
    refine UK hm ?_;have nT:Below w.heap.size w {w with drawn:=w.drawn+1}:=⟨rfl,rfl,rfl,dD _,fun _ _=>rfl⟩;have lF:∀k,¬bU (Array.replicate aJ.size false) k:=fun k hk=>by unfold bU at hk;simp only[vP,HW] at hk;split at hk<;>simp at hk
    have hI0:Kv o aA aJ.toList isF a (Array.replicate aJ.size false) a {w with drawn:=w.drawn+1}:=
     ⟨rfl,rfl,fun _ _=>rfl,fun k _ _ _ hk=>absurd hk (lF k),fun k _ hk=>absurd hk (lF k)⟩
    have oP:zB (Array.replicate aJ.size false)<=aJ.size:=by unfold zB;exact fG (Tl ..) (by simp)
    have:=eR5 (P:=P) (bB:=aJ.toList) (Q:=Q) ho hD mF MJ bE aJ.size (Array.replicate aJ.size false) a {w with drawn:=w.drawn+1} (by simp) oP hI0
     ⟨fun n v hv=>let ⟨u,h1,h2⟩:=hl.1 n v hv;⟨u,h1,h2.move (fun b hb=>hb) fun p hp=>rfl⟩,hl.2.move (fun b hb=>hb) fun p hp=>rfl⟩
     (fun listed a' w' eG hb hI=>hQ a' w' (FZ a' w' w' (nT.trans (hb.mono nT.size)) (by
      have hq:=hI.qinv (hat.1.1) (by omega);rw[<-hlenF,D0] at hq;obtain⟨q1,q2,q3,q4,q5⟩:=hq;refine⟨q1,q2,q3,q4,fun t=> ?_⟩;have q6:=q5 t;split at q6;rename_i hdn;intro _;refine q6 fun k hk e=> ?_;cases cR:aJ.toList[k]? with|none=>rw[cR] at e;cases e|some eX=>exact hat.1.2 k t (fE.1 cR).1 e hdn
      rename_i j hdj;obtain⟨q,hq,hy,hn⟩:=q6;have hj:=eG j (hat.1.1 t j hdj).1;exact⟨q,hq,fun _=>hy hj,fun _=>hn hj⟩)))
    simpa using this
   cases h
end Go.VM
namespace Go.VM
open Go.RowKit
variable [cB]
def nm (aA:aG)(n:Nat):Option Nat:=(aF n aA).bind V.names
def NC (aA:aG)(W:List Nat):Prop:=∀n m,m∈W->nm aA n=some m->n∈W
def eT (aA aT:aG)(l:List Nat):Prop:=∀n∈l,aF n aT=aF n aA
section
variable {o:aU} {aA aT:aG}
def dJ4 (hs:cH aA){d:Nat}{x:V}(h:∀n,nm aA n=some d->n=d){n:Nat}(hn:n≠d):aF n (put' d x aA)=aF n aA:=by rw[gJ hs,aK hn];cases hd:aF d aA with|none=>rfl|some y=>simp only;cases hq:aF n aA with|none=>rfl|some z=>simp only[aZ];split;rename_i hz;exact absurd (h n (by simp[nm,hq,hz])) hn;rfl
def Gb (n:Nat):n∈sV aA n:=by unfold sV;split<;>simp
def OL {n m:Nat}(h:nm aA n=some m):m∈sV aA n:=by unfold sV;unfold nm at h;rw[h];simp
def V6 {n:Nat}(h:eT aA aT (sV aA n)):iH aT n=iH aA n:=by
 have h1:=h n (Gb n);have h2:∀m,nm aA n=some m->aF m aT=aF m aA:=fun m hm=>h m (OL hm);unfold iH;rw[h1];cases hx:aF n aA with
 |none=>rfl
 |some x=>
  unfold nm at h2;rw[hx] at h2;cases x<;>first
   |rfl
   |(simp only[h2 _ rfl];done)
def Bm {s:bF}(h:eT aA aT (oA aA s)):dK aT s=dK aA s:=by cases s with|c v=>rfl|t n=>exact V6 h
def eT.left {l r:List Nat}(h:eT aA aT (l++r)):eT aA aT l:=fun n hn=>h n (oG _ hn)
def eT.right {l r:List Nat}(h:eT aA aT (l++r)):eT aA aT r:=fun n hn=>h n (rK _ hn)
def Om:∀{xs:List bF},eT aA aT (fH aA xs)->eC aT xs=eC aA xs
 |[],_=>rfl|s::r,h=>by simp only[fH] at h;simp only[eC,Bm h.left,Om h.right]
def O6 {s:bF}(h:eT aA aT (oA aA s)):owner aT s=owner aA s:=by cases s with|c v=>rfl|t n=>have h1:=h n (Gb n);simp only[owner,h1]
def VY:∀{xs:List bF},eT aA aT (fH aA xs)->lJ aT xs=lJ aA xs
 |[],_=>rfl|s::r,h=>by simp only[fH] at h;simp only[lJ,O6 h.left,VY h.right]
def KQ:∀{xs:List bF},lJ aA xs=true->freeze aA xs=aA
 |[],_=>rfl|s::r,h=>by simp only[lJ,fA,JP] at h;unfold freeze;rw[uO,h.1];exact KQ h.2
def tI (o:aU)(s:St)(e:aG)(W:List Nat)(aT:aG):Prop:=∃e2,bS o aT s=some e2/\cH e2/\(∀n∈W,aF n e2=aF n e)/\∀n,n ∉ W->aF n e2=aF n aT
def IQ (hs:cH aA)(cJ:cH aT){d:Nat}{v:V}(eO:NC aT [d]){s:St}{e:aG}(he:e=put' d v aA)(h2:bS o aT s=some (put' d v aT)):tI o s e [d] aT:=by subst he;refine⟨_,h2,cJ.put' _ _,fun n hn=> ?_,fun n hn=> ?_⟩;simp only[uQ] at hn;subst hn;rw[gJ hs,gJ cJ,aY rfl,aY rfl];simp only[uQ] at hn;exact dJ4 cJ (fun k hk=>by simpa using eO k d (by simp) hk) hn
def dW6 (hs:cH aA)(cJ:cH aT){d:Option Nat}{v:V}(eO:NC aT d.toList){s:St}{e:aG}(he:e=rC d v aA)(h2:bS o aT s=some (rC d v aT)):tI o s e d.toList aT:=by cases d with|none=>subst he;exact⟨_,h2,cJ,fun n hn=>by simp at hn,fun n _=>rfl⟩|some d=>exact IQ hs cJ eO he h2
def dW9 (hs:cH aA)(cJ:cH aT){d n:Nat}{x:V}(hx:aF n aA=some x)(lA:∀ys,x≠ .t ys){e:aG}(aC:bS o aA (.mv d (.t n))=some e){f:List Nat×List Nat}(hf:iK o aA (.mv d (.t n))=some f)(ha:eT aA aT f.1)(eO:NC aT f.2):tI o (.mv d (.t n)) e f.2 aT:=by
 simp only[iK] at hf;have zD:∀R,f.1=R->n∈R->aF n aT=aF n aA:=fun R hR hn=>ha n (hR▸hn);simp only[bS] at aC
 ·rw[hx] at aC hf;simp only[aZ] at aC;have h2:f=(sV aA n,[d])->aF n aT=some x:=fun h=>by rw[zD _ (by rw[h]) (Gb n),hx]
  cases x<;>first
   |exact absurd rfl (lA _)
   |(cases aC;done)
   |(simp only[aH] at hf
     have h3:=h2 hf.symm;subst hf;simp only at aC;split at aC;cases aC;rename_i hcnd;simp only[aH] at aC;refine IQ hs cJ eO aC.symm ?_;simp only[bS,h3,aZ];rw[aK hcnd])
def dX3 (hs:cH aA)(cJ:cH aT){d n:Nat}{e:aG}(aC:bS o aA (.as d (.t n))=some e){f:List Nat×List Nat}(hf:iK o aA (.as d (.t n))=some f)(ha:eT aA aT f.1)(hw:eT aA aT f.2)(hc:NC aA f.2)(eO:NC aT f.2):tI o (.as d (.t n)) e f.2 aT:=by
 simp only[iK] at hf;have bR4:∀{aA:aG} (hs:cH aA) {m d n:Nat} {y:V} (Au:m≠d) (lY:n≠d) (hc:NC aA (if n=m then[d,m] else[d,m,n])) (jQ:n≠m->nm aA n=some m),cH (hand m d y aA)/\aF m (hand m d y aA)=some (.al d)/\aF d (hand m d y aA)=some y/\(n≠m->aF n (hand m d y aA)=none)/\
   ∀k,k ∉ (if n=m then[d,m] else[d,m,n])->aF k (hand m d y aA)=aF k aA:=by
  intro aA hs m d n y Au lY hc jQ;have rE:cH (cN m aA):=hs.filter _;have F2:d∈(if n=m then[d,m] else[d,m,n]):=by split<;>simp
  have EB:m∈(if n=m then[d,m] else[d,m,n]):=by split<;>simp
  have MI:∀k,k ∉ (if n=m then[d,m] else[d,m,n])->aF k (put' d y (cN m aA))=aF k aA:=by
   intro k hk;have nQ:aF k (cN m aA)=aF k aA:=by rw[uH hs];cases hq:aF k aA with|none=>rfl|some z=>simp only[aZ];split;rename_i hz;exact absurd (hc k m EB (by simp[nm,hq,hz])) hk;rfl
   rw[<-nQ];rw[gJ rE,aK (fun h=>hk (by rw[h];exact F2))];cases hq:aF d (cN m aA) with|none=>rfl|some z=>simp only;rw[nQ];cases dE:aF k aA with|none=>rfl|some z'=>simp only[aZ];split;rename_i hz;exact absurd (hc k d F2 (by simp[nm,dE,hz])) hk;rfl
  refine⟨(rE.put' _ _).put _ _,?_,?_,fun bM=> ?_,fun k hk=> ?_⟩;unfold hand;rw[kZ,aY rfl];unfold hand;rw[kZ,aK (D2 Au),gJ rE,aY rfl];unfold hand;rw[kZ,aK bM,gJ rE,aK lY];have nQ:aF n (cN m aA)=none:=by rw[uH hs];have:=jQ bM;unfold nm at this;cases hq:aF n aA with|none=>rfl|some z=>rw[hq] at this;simp only[aZ] at this⊢;rw[aY this]
  cases hq:aF d (cN m aA)<;>simp[nQ];unfold hand;rw[kZ,aK (fun h=>hk (by rw[h];exact EB))];exact MI k hk
 have u6:∀(m:Nat) (y:V),owner aA (.t n)=some m->aF m aA=some y->y.isOwn=true->(n≠m->nm aA n=some m)->bS o aA (.as d (.t n))=some e->(∀aT,aF n aT=aF n aA->aF m aT=aF m aA->bS o aT (.as d (.t n))=(if m=d then none else some (hand m d y aT)))->tI o (.as d (.t n)) e f.2 aT:=by
  intro m y ho hy cA jQ aC Ch;rw[ho] at hf;simp only[hy] at hf;split at hf;rename_i fN;simp only[aH] at hf;simp only[fA,D3] at fN;subst hf;simp only at*;have hnW:n∈(if n=m then[d,m] else[d,m,n]):=by split<;>simp_all
  have EB:m∈(if n=m then[d,m] else[d,m,n]):=by split<;>simp
  have F2:d∈(if n=m then[d,m] else[d,m,n]):=by split<;>simp
  have e1:=Ch aA rfl rfl;rw[aC,aK fN.2] at e1;cases e1;have e2:=Ch aT (hw n hnW) (hw m EB);rw[aK fN.2] at e2;have hnm2:n≠m->nm aT n=some m:=fun h=>by unfold nm;rw[hw n hnW];exact jQ h
  obtain⟨_,a1,a2,a3,a4⟩:=bR4 hs (y:=y) fN.2 fN.1.2 hc jQ;obtain⟨b0,b1,b2,b3,b4⟩:=bR4 cJ (y:=y) fN.2 fN.1.2 eO hnm2;refine⟨_,e2,b0,fun k hk=> ?_,b4⟩;by_cases MK:n=m;rw[aY MK] at hk;simp only[eP,xG,xH] at hk;rcases hk with rfl|rfl;rw[a2,b2];rw[a1,b1];rw[aK MK] at hk;simp only[eP,xG,xH] at hk;rcases hk with rfl|rfl|rfl;rw[a2,b2];rw[a1,b1];rw[a3 MK,b3 MK];rename_i fN;cases hf
 have plain:∀(y:V),f=(sV aA n,[d])->bS o aA (.as d (.t n))=some e->(∀aT,eT aA aT (sV aA n)->bS o aT (.as d (.t n))=some (put' d y aT))->tI o (.as d (.t n)) e f.2 aT:=by intro y hf aC Ch;subst hf;have e1:=Ch aA (fun _ _=>rfl);rw[aC] at e1;cases e1;exact IQ hs cJ eO rfl (Ch aT ha)
 have MF:=aC;simp only[bS] at aC;cases hx:aF n aA with
 |none=>rw[hx] at aC;cases aC
 |some x=>
  rw[hx] at aC;simp only[aZ] at aC;have direct:x.names=none->(∀aT,aF n aT=some x->bS o aT (.as d (.t n))=(if x.isOwn=true then(if n=d then none else some (hand n d x aT)) else some (put' d x aT)))->tI o (.as d (.t n)) e f.2 aT:=by
   intro tA Ch;have hg:∀aT,aF n aT=aF n aA->aF n aT=some x:=fun aT h=>h.trans hx;by_cases cA:x.isOwn=true;refine u6 n x (by simp[owner,hx,tA,cA]) hx cA (fun h=>absurd rfl h) MF fun aT h1 _=> ?_;rw[Ch aT (hg _ h1),aY cA];have ho:owner aA (.t n)=none:=by simp[owner,hx,tA,cA]
   rw[ho] at hf;simp only[aH] at hf;refine plain x hf.symm MF fun aT h=> ?_;rw[Ch aT (hg _ (h n (Gb n))),aK cA]
  cases x with
  |al m=>
   simp only at aC;cases hy:aF m aA with
   |none=>rw[hy] at aC;cases aC
   |some y=>
    rw[hy] at aC;simp only[aZ] at aC;have ho:owner aA (.t n)=some m:=by simp[owner,hx,V.names]
    by_cases cA:y.isOwn=true
    ·refine u6 m y ho hy cA (fun _=>by simp[nm,hx,V.names]) MF fun aT h1 h2=> ?_;simp only[bS,h1.trans hx,h2.trans hy,aZ];cases y<;>first |(simp[V.isOwn] at cA;done)|(simp only[cA,jA])
    ·rw[ho] at hf;simp only[hy] at hf;have hnot:(y.isOwn&&n !=d&&m !=d)=false:=by simp[cA]
     rw[hnot,aK (by simp),aK cA] at hf;simp only[aH] at hf;cases hyk:y<;>rw[hyk] at aC<;>first
      |(cases aC;done)
      |(refine plain y hf.symm MF fun aT h=> ?_
        have h1:=(h n (Gb n)).trans hx;have h2:=(h m (OL (by simp[nm,hx,V.names]))).trans hy;simp only[bS,h1,h2,aZ];subst hyk;simp only[cA];simp)
      |(subst hyk;simp[V.isOwn] at cA;done)
  |pe _ _ _ _=>cases aC|pb _ _ _=>cases aC|t _=>cases aC|ud=>cases aC|_=>exact direct rfl fun aT h2=>by simp only[bS,h2,aZ]
def dX4 (hs:cH aA)(cJ:cH aT){d e1 k b n:Nat}{y:bF}{e:aG}(aC:bS o aA (.app d e1 k b (.t n) y)=some e){f:List Nat×List Nat}(hf:iK o aA (.app d e1 k b (.t n) y)=some f)(ha:eT aA aT f.1)(hw:eT aA aT f.2)(hc:NC aA f.2)(eO:NC aT f.2):tI o (.app d e1 k b (.t n) y) e f.2 aT:=by
 simp only[iK] at hf;cases hm:wG aA n with
 |none=>rw[hm] at hf;cases hf
 |some m=>
  rw[hm] at hf;simp only[aZ] at hf;split at hf
  ·rename_i fN;simp only[fA,D3] at fN;simp only[aH] at hf;subst hf;simp only at ha hw hc eO;have hnW:n∈(if n=m then[d,m] else[d,m,n]):=by split<;>simp_all
   have EB:m∈(if n=m then[d,m] else[d,m,n]):=by split<;>simp
   have F2:d∈(if n=m then[d,m] else[d,m,n]):=by split<;>simp
   have mE:=hw n hnW;have AH:=hw m EB;have Ar:wG aT n=some m:=by simp only[wG,mE];exact hm
   have hly:=Bm (s:=y) ha;have FU:=O6 (s:=y) ha;simp only[bS] at aC;cases hv:dK aA y with
   |none=>rw[hv] at aC;cases aC
   |some yv=>
    rw[hv] at aC;simp only[aZ] at aC;cases yv<;>first |(cases aC;done)|skip
    rename_i ys;simp only at aC;split at aC
    ·rename_i eG;rw[hm] at aC;simp only[aZ] at aC;cases hx:aF m aA with
     |none=>rw[hx] at aC;cases aC
     |some x=>
      rw[hx] at aC;simp only[aZ] at aC;cases x<;>first |(cases aC;done)|skip
      rename_i e' es;simp only at aC;split at aC;rename_i hcd;simp only[aH] at aC;subst aC;let G:aG->Nat->Option V:=fun aA k=>if k=m then none else(aF k aA).bind fun x=>if x.names=some m then none else if x.names=some n then none else some x;have Ra:∀{aA:aG},cH aA->NC aA (if n=m then[d,m] else[d,m,n])->cH (put' d (.ow e1 (es++ys)) (cN n (cN m (eH m aA))))/\
        (∀k,aF k (put' d (.ow e1 (es++ys)) (cN n (cN m (eH m aA))))=if k=d then some (.ow e1 (es++ys)) else match G aA d with
         |none=>G aA k
         |some _=>(G aA k).bind fun x=>if x.names=some d then none else some x)/\
        ∀k,k ∉ (if n=m then[d,m] else[d,m,n])->aF k (put' d (.ow e1 (es++ys)) (cN n (cN m (eH m aA))))=aF k aA:=by
       intro aA hs hc;have s1:cH (eH m aA):=hs.filter _;have s2:cH (cN m (eH m aA)):=s1.filter _;have s3:cH (cN n (cN m (eH m aA))):=s2.filter _;have hg:∀k,aF k (cN n (cN m (eH m aA)))=G aA k:=by intro k;simp only[G];rw[uH s2,uH s1,f' hs];by_cases hk:k=m;simp[hk];rw[aK hk,aK hk];cases aF k aA with|none=>rfl|some z=>simp only[aZ];split<;>simp
       have MI:∀k,k ∉ (if n=m then[d,m] else[d,m,n])->aF k (cN n (cN m (eH m aA)))=aF k aA:=by intro k hk;rw[hg];simp only[G];rw[aK (fun h=>hk (by rw[h];exact EB))];cases hq:aF k aA with|none=>rfl|some z=>simp only[aZ];rw[aK (fun h=>hk (hc k m EB (by simp[nm,hq,h]))),aK (fun h=>hk (hc k n hnW (by simp[nm,hq,h])))]
       refine⟨s3.put' _ _,fun k=>by rw[gJ s3,hg,hg];rfl,fun k hk=> ?_⟩;rw[gJ s3,aK (fun h=>hk (by rw[h];exact F2))];cases hq:aF d (cN n (cN m (eH m aA))) with|none=>exact MI k hk|some z=>simp only;rw[MI k hk];cases dE:aF k aA with|none=>rfl|some z'=>simp only[aZ];rw[aK (fun h=>hk (hc k d F2 (by simp[nm,dE,h])))]
      obtain⟨_,a1,a2⟩:=Ra hs hc;obtain⟨b0,b1,b2⟩:=Ra cJ eO;refine⟨_,?_,b0,fun k hk=> ?_,b2⟩;simp only[bS,hly,hv,aZ];rw[aY eG,Ar];simp only[aZ,AH,hx];rw[aY (by rw[FU];exact hcd)];rw[a1 k,b1 k];simp only[G,hw k hk,hw d F2];cases aC
    cases aC
  cases hf
def dW1 {s:bF}(h:eT aA aT (oA aA s)):On aT s=On aA s:=by
 have ho:=O6 h;have hl:=Bm h;unfold On;rw[ho,hl];split;rfl;cases s with
 |c v=>rfl
 |t n=>
  have hn:aF n aT=aF n aA:=h n (Gb n);simp only[hn];cases hx:aF n aA with
  |none=>rfl
  |some x=>
   cases x<;>first |rfl|skip
   rename_i m;have hm:aF m aT=aF m aA:=h m (OL (by simp[nm,hx,V.names]));simp only[hm]
def bM0:∀{xs:List bF},eT aA aT (fH aA xs)->Ez aT xs=Ez aA xs
 |[],_=>rfl|s::r,h=>by simp only[Ez,dW1 h.left,bM0 h.right]
def bH6 {m:Nat}:∀{xs:List bF},eT aA aT (fH aA xs)->Ju aT m xs=Ju aA m xs
 |[],_=>rfl|s::r,h=>by simp only[Ju,O6 h.left,bH6 h.right]
def dX2 (hs:cH aA)(cJ:cH aT){d f0 n:Nat}{mu:T6}{xs:List bF}{e:aG}(aC:bS o aA (.callm (some d) f0 mu (.t n) xs)=some e){f:List Nat×List Nat}(hf:iK o aA (.callm (some d) f0 mu (.t n) xs)=some f)(ha:eT aA aT f.1)(hw:eT aA aT f.2)(hc:NC aA f.2)(eO:NC aT f.2):tI o (.callm (some d) f0 mu (.t n) xs) e f.2 aT:=by
 simp only[iK] at hf;cases hm:wG aA n with
 |none=>rw[hm] at hf;cases hf
 |some m=>
  rw[hm] at hf;simp only[aZ] at hf;split at hf
  ·rename_i fN;simp only[fA,D3] at fN;obtain⟨⟨qO,oE⟩,hc2'⟩:=fN;have fN:=And.intro oE hc2';simp only[aH] at hf;subst hf;simp only at ha hw hc eO;have hnW:n∈(if n=m then[d,m] else[d,m,n]):=by split<;>simp_all
   have EB:m∈(if n=m then[d,m] else[d,m,n]):=by split<;>simp
   have F2:d∈(if n=m then[d,m] else[d,m,n]):=by split<;>simp
   have mE:=hw n hnW;have AH:=hw m EB;have Ar:wG aT n=some m:=by simp only[wG,mE];exact hm
   have hly:=bM0 ha;have FU:=bH6 (m:=m) ha;simp only[bS] at aC;cases hv:Ez aA xs with
   |none=>rw[hv] at aC;cases aC
   |some vs=>
    rw[hv] at aC;simp only[aZ] at aC;rw[hm] at aC;simp only[aZ] at aC;cases hx:aF m aA with
    |none=>rw[hx] at aC;cases aC
    |some x=>
     rw[hx] at aC;simp only[aZ] at aC;cases x<;>first |(cases aC;done)|skip
     rename_i e' es;simp only at aC;split at aC;rename_i hcd;cases bY:mu.run es vs with
     |none=>rw[bY] at aC;cases aC
     |some es1=>
      rw[bY] at aC;simp only[aZ,eB,aH] at aC;subst aC;let G:aG->Nat->Option V:=fun aA k=>if k=m then none else(aF k aA).bind fun x=>if x.names=some m then none else if x.names=some n then none else some x;have Ra:∀{aA:aG},cH aA->NC aA (if n=m then[d,m] else[d,m,n])->cH (put' d (.ow e' es1) (cN n (cN m (eH m aA))))/\
        (∀k,aF k (put' d (.ow e' es1) (cN n (cN m (eH m aA))))=if k=d then some (.ow e' es1) else match G aA d with
         |none=>G aA k
         |some _=>(G aA k).bind fun x=>if x.names=some d then none else some x)/\
        ∀k,k ∉ (if n=m then[d,m] else[d,m,n])->aF k (put' d (.ow e' es1) (cN n (cN m (eH m aA))))=aF k aA:=by
       intro aA hs hc;have s1:cH (eH m aA):=hs.filter _;have s2:cH (cN m (eH m aA)):=s1.filter _;have s3:cH (cN n (cN m (eH m aA))):=s2.filter _;have hg:∀k,aF k (cN n (cN m (eH m aA)))=G aA k:=by intro k;simp only[G];rw[uH s2,uH s1,f' hs];by_cases hk:k=m;simp[hk];rw[aK hk,aK hk];cases aF k aA with|none=>rfl|some z=>simp only[aZ];split<;>simp
       have MI:∀k,k ∉ (if n=m then[d,m] else[d,m,n])->aF k (cN n (cN m (eH m aA)))=aF k aA:=by intro k hk;rw[hg];simp only[G];rw[aK (fun h=>hk (by rw[h];exact EB))];cases hq:aF k aA with|none=>rfl|some z=>simp only[aZ];rw[aK (fun h=>hk (hc k m EB (by simp[nm,hq,h]))),aK (fun h=>hk (hc k n hnW (by simp[nm,hq,h])))]
       refine⟨s3.put' _ _,fun k=>by rw[gJ s3,hg,hg];rfl,fun k hk=> ?_⟩;rw[gJ s3,aK (fun h=>hk (by rw[h];exact F2))];cases hq:aF d (cN n (cN m (eH m aA))) with|none=>exact MI k hk|some z=>simp only;rw[MI k hk];cases dE:aF k aA with|none=>rfl|some z'=>simp only[aZ];rw[aK (fun h=>hk (hc k d F2 (by simp[nm,dE,h])))]
      obtain⟨_,a1,a2⟩:=Ra hs hc;obtain⟨b0,b1,b2⟩:=Ra cJ eO;refine⟨_,?_,b0,fun k hk=> ?_,b2⟩;simp only[bS,hly,hv,aZ,Ar,AH,hx];rw[aY (by rw[FU];exact hcd),bY];simp only[aZ,qO,jA,eB];rw[a1 k,b1 k];simp only[G,hw k hk,hw d F2]
     cases aC
  cases hf
end
end Go.VM
