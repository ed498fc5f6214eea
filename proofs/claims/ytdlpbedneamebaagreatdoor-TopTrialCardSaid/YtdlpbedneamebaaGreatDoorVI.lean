/-
The evaluator and its soundness: part of the proof of the last text.
-/
import Derived.Test.YtdlpbedneamebaaGreatDoorVG
import Derived.Test.YtdlpbedneamebaaGreatDoorVF
set_option linter.all false
namespace Go.VM
open Go.RowKit
open Go.ChangeMaps (setBlock)
variable [cB]
section
variable {P:Program} {nt:Nat} {keep ret:List Nat} {S:Nat->Prop} {aD:Nat} {w0:World} {aA aN:aG} {a:Act} {w:World} {o:aU}
def eL8 {l:List MapEntry}(hn:(l.map (·.born)).Nodup){i:Nat}{e:MapEntry}(he:l[i]? =some e):l.filter (fun x=>x.born !=e.born)=l.eraseIdx i:=by induction l generalizing i with|nil=>simp at he|cons y l ih=>have kC:=JM.1 hn;cases i with|zero=>simp only[D7,aH] at he;subst he;rw[List.eraseIdx_cons_zero,LF,aK (by simp)];refine X2.2 fun x hx=> ?_;simp only[D3,ne_eq];intro h;exact kC.1 (by show y.born∈_;rw[<-h];exact jL.2 ⟨x,hx,rfl⟩)|succ i=>simp only[HY] at he;rw[List.eraseIdx_cons_succ,LF,aY,ih kC.2 he];simp only[D3,ne_eq];intro h;exact kC.1 (by show y.born∈_;rw[show y.born=e.born from h];exact jL.2 ⟨e,k6 he,rfl⟩)
def Zk (es:Array MapEntry)(seen:Array Nat):(leftOf es seen).toList=es.toList.filter fun e=> !seen.contains e.born:=by unfold leftOf;rw[Array.toList_filter]
def bN0 {es:Array MapEntry}{seen:Array Nat}(hn:(es.toList.map (·.born)).Nodup){i:Nat}{e:MapEntry}(he:(leftOf es seen).toList[i]? =some e):(leftOf es (seen.push e.born)).toList=(leftOf es seen).toList.eraseIdx i:=by
 have kC:((leftOf es seen).toList.map (·.born)).Nodup:=by rw[Zk];exact List.Nodup.sublist (List.Sublist.map _ (List.filter_sublist ..)) hn
 rw[<-eL8 kC he,Zk,Zk,List.filter_filter];refine List.filter_congr fun x _=> ?_;rw[contains_push];cases seen.contains x.born<;>simp[bne]
end
end Go.VM
namespace Go.VM
open Go.RowKit
open Go.ChangeMaps (setBlock)
variable [cB]
section
variable {P:Program} {nt:Nat} {keep ret:List Nat} {S:Nat->Prop} {aD:Nat} {w0:World} {aA aN:aG} {a:Act} {w:World} {o:aU}
def Uz {w:World}{r b:Nat}{o':Obj}(h:b≠r):(setBlock w r o').heap[b]? =w.heap[b]? :=by show(w.heap.setIfInBounds r o')[b]? =_;rw[BT];simp[D2 h]
def Y0 {w:World}{r:Nat}{o':Obj}:(setBlock w r o').heap.size=w.heap.size:=by show(w.heap.setIfInBounds r o').size=_;simp
def Y1 {w:World}{r:Nat}{o o':Obj}(h:w.heap[r]? =some o):(setBlock w r o').heap[r]? =some o':=by show(w.heap.setIfInBounds r o')[r]? =_;have:=(j6.1 h).1;rw[BT];simp[this]
end
end Go.VM
namespace Go.VM
open Go.RowKit
variable [cB]
inductive DC where
 |skip|ret
 |reg (ss:List St)
 |seq (a b:DC)
 |cond (x:X) (a b:DC)
def sH (o:aU):DC->aG->Option (Ex×aG)
 | .skip,aA=>some (.n,aA)| .ret,aA=>some (.r,aA)| .reg ss,aA=>(nM o ss aA).bind fun e=>some (.n,e)
 | .seq a b,aA=>(sH o a aA).bind fun p=>match p.1 with
  | .n=>sH o b p.2|e=>some (e,p.2)
 | .cond x a b,aA=>(dJ o aA x).bind fun v=>match v with
  | .b t=>if t then sH o a aA else sH o b aA|_=>none
def zO (P:Program)(nt:Nat)(K:List Nat):Code->Option DC
 | .skip=>some .skip| .ret=>some .ret| .region _ aJ false=>if aJ.toList.all (fun o=>match o.dst with |some d=>decide (d<nt)&& !K.contains d|none=>true)=true then(n9 P aJ.toList).map .reg else none| .seq a b=>(zO P nt K a).bind fun x=>(zO P nt K b).map (.seq x)| .cond c a b=>(M4 c).bind fun x=>(zO P nt K a).bind fun y=>(zO P nt K b).map (.cond x y)|_=>none
section
variable {P:Program} {nt:Nat} {S:Nat->Prop} {aD:Nat} {w0:World} {aA aN:aG} {a a0:Act} {w:World} {o:aU} {K:List Nat}
structure FD (P:Program) (nt:Nat) (S:Nat->Prop) (aD:Nat) (w0:World) (K:List Nat) (a0:Act) (aA:aG) (a:Act) (w:World):Prop where
 fi:FI P nt (List.range nt) S aD w0 aA {a with defers:=[]} w
 df:a.defers=a0.defers
 tm:∀n∈K,tm a n=tm a0 n
def AC (a:Act)(d:Option Nat)(u:Value):{a.put d u with defers:=[]}=Act.put {a with defers:=[]} d u:=by cases d<;>rfl
def FD.put (h:FD P nt S aD w0 K a0 aA a w){d:Option Nat}(hd:∀n,d=some n->n ∉ K){u:Value}{aM:aG}{w1:World}(hf:FI P nt (List.range nt) S aD w0 aM (Act.put {a with defers:=[]} d u) w1):FD P nt S aD w0 K a0 aM (a.put d u) w1:=by refine⟨by rw[AC];exact hf,?_,fun n hn=> ?_⟩;rw[<-h.df];cases d<;>rfl;rw[<-h.tm n hn];cases d with|none=>rfl|some d=>have:d≠n:=fun e=>hd d rfl (e▸hn);unfold VM.tm Act.put;simp only[BT];rw[aK this]
def bA3 (ho:eL P o){Q:Exit->Act->World->Prop}{bB:List Oper}:∀(r:List Oper) (ss:List St) (n:Nat) (aA:aG) (a:Act) (w:World),n9 P r=some ss->nM o ss aA=some aN->bB.drop n=r->
  (∀op∈r,∀d,op.dst=some d->d<nt/\d ∉ K)->FD P nt S aD w0 K a0 aA a w->(∀a' w',FD P nt S aD w0 K a0 aN a' w'->Q .normal a' w')->wpOps P bB.toArray Q (List.range' n r.length) a w
 |[],ss,n,aA,a,w,eK,aC,_,_,hF,hQ=>by simp only[n9,aH] at eK;subst eK;simp only[nM,aH] at aC;subst aC;exact hQ a w hF
 |op::r,ss,n,aA,a,w,eK,aC,yE,hk,hF,hQ=>by
  simp only[n9,bL,aH] at eK;obtain⟨s,hs,ss',AG,rfl⟩:=eK;simp only[nM,bL] at aC;obtain⟨aM,h1,h2⟩:=aC;obtain⟨hat,Co⟩:=Ib yE;obtain⟨hg,dN⟩:=Jh ho hF.fi hs h1 (fun d hd=>⟨nH.2 (hk op (dC ..) d hd).1,(hk op (dC ..) d hd).1⟩);simp only[fY,GP,wpOps,CL,hat];have hw:Region.wanted op (yielded bB.toArray a.tmps)=true:=by simp[Region.wanted,hg]
  rw[aY hw];left;refine f8.wp ?_;have iQ:Act.eval {a with defers:=[]}=a.eval:=by funext x;cases x<;>rfl
  rw[iQ] at dN;revert dN;generalize (execOp a.eval op).run P w=res;intro dN;have next:∀u w1,FI P nt (List.range nt) S aD w0 aM (Act.put {a with defers:=[]} op.dst u) w1->wpOps P bB.toArray Q (List.range' (n+1) r.length) (a.put op.dst u) w1:=fun u w1 h=>
   bA3 ho r ss' (n+1) aM _ w1 AG h2 Co (fun eX h'=>hk eX (dL _ h')) (hF.put (fun d hd=>(hk op (dC ..) d hd).2) h) hQ
  unfold f8 at dN⊢;split at dN
  ·exact next _ _ dN
  ·exact next _ _ dN
  ·exact dN.mono fun e w1 ⟨u,he,h⟩=>⟨u,he,next _ _ h⟩
  exact dN.elim
def PK (ho:eL P o):∀(c:Code) (cc:DC),zO P nt K c=some cc->∀(aA:aG) (ex:Ex) (aN:aG),sH o cc aA=some (ex,aN)->∀(a:Act) (w:World),FD P nt S aD w0 K a0 aA a w->
  ∀(Q:Exit->Act->World->Prop),(∀a' w',FD P nt S aD w0 K a0 aN a' w'->Q ex.exit a' w')->c.wp P Q a w
 | .skip,cc,hc,aA,ex,aN,hx,a,w,hF,Q,hQ=>by simp only[zO,aH] at hc;subst hc;simp only[sH,aH,cM] at hx;obtain⟨rfl,rfl⟩:=hx;exact wp_skip (hQ a w hF)
 | .ret,cc,hc,aA,ex,aN,hx,a,w,hF,Q,hQ=>by simp only[zO,aH] at hc;subst hc;simp only[sH,aH,cM] at hx;obtain⟨rfl,rfl⟩:=hx;exact wp_ret (hQ a w hF)
 | .region id aJ true,cc,hc,_,_,_,_,_,_,_,_,_=>by simp[zO] at hc
 | .region id aJ false,cc,hc,aA,ex,aN,hx,a,w,hF,Q,hQ=>by
  simp only[zO] at hc;split at hc;rename_i hd;simp only[gY] at hc;obtain⟨ss,eK,rfl⟩:=hc;simp only[sH,bL,aH,cM] at hx;obtain⟨e,he,rfl,rfl⟩:=hx;refine yX ?_;have:=bA3 (Q:=Q) (bB:=aJ.toList) ho aJ.toList ss 0 aA a w eK he (by simp) (fun op aO d hdd=>by
   have h:=eM.1 hd op aO;rw[hdd] at h;simpa using h) hF hQ
  simpa[EY] using this;cases hc
 | .seq x y,cc,hc,aA,ex,aN,hx,a,w,hF,Q,hQ=>by
  simp only[zO,bL,gY] at hc;obtain⟨c1,h1,c2,h2,rfl⟩:=hc;simp only[sH,bL] at hx;obtain⟨⟨e1,aM⟩,F1,hx⟩:=hx;refine nW (PK ho x c1 h1 aA e1 aM F1 a w hF _ fun a1 w1 bZ=> ?_);cases e1 with
  |n=>exact PK ho y c2 h2 aM ex aN hx a1 w1 bZ Q hQ|e id=>simp only[aH,cM] at hx;obtain⟨rfl,rfl⟩:=hx;exact hQ a1 w1 bZ
  |r=>simp only[aH,cM] at hx;obtain⟨rfl,rfl⟩:=hx;exact hQ a1 w1 bZ
 | .cond c x y,cc,hc,aA,ex,aN,hx,a,w,hF,Q,hQ=>by
  simp only[zO,bL,gY] at hc;obtain⟨cx,hcx,c1,h1,c2,h2,rfl⟩:=hc;simp only[sH,bL] at hx;obtain⟨v,hv,hx⟩:=hx;cases v<;>first |(cases hx;done)|skip
  rename_i t;have iQ:Act.eval {a with defers:=[]}=a.eval:=by funext x;cases x<;>rfl
  have vG:=SF hF.fi hcx hv;rw[iQ] at vG;refine H3 vG ?_;cases t with|true=>exact PK ho x c1 h1 aA ex aN hx a w hF Q hQ|false=>exact PK ho y c2 h2 aA ex aN hx a w hF Q hQ
 | .block ..,cc,hc,_,_,_,_,_,_,_,_,_=>by simp[zO] at hc| .loop ..,cc,hc,_,_,_,_,_,_,_,_,_=>by simp[zO] at hc| .exit ..,cc,hc,_,_,_,_,_,_,_,_,_=>by simp[zO] at hc| .scope ..,cc,hc,_,_,_,_,_,_,_,_,_=>by simp[zO] at hc| .rangeFunc ..,cc,hc,_,_,_,_,_,_,_,_,_=>by simp[zO] at hc
def eY2 (ho:eL P o){f:FuncId}{fn:Func}(hf:P.funcs[f]? =some fn){fc:aQ}(hc:oU P fn=some fc){xs:List V}{y:V}(hv:BN o fc xs=some y){vs:List Value}(hS:∀b,S b->b<w.heap.size)(hG:mV S w)(hr:aX S w vs xs)(u:FrameMode):
  CallsD P f vs.toArray u w fun e u' w'=>u'=u/\∃v,e= .returned v/\Below w.heap.size w w':=by
 unfold oU at hc;simp only[bL] at hc;obtain⟨c,wT,b,F3,rs,eA,hc⟩:=hc;split at hc;rename_i fN;cases hc;unfold BN at hv;split at hv;rename_i pZ;simp only[bL] at hv;obtain⟨⟨ex,aN⟩,aA7,hv⟩:=hv;have bT:vs.length=fn.params.size+fn.nfree:=hr.1.trans pZ.1;have hF:=FI.start (P:=P) (nt:=fn.ntmps) (keep:=Bn fn c) hS hG hr pZ.2 (by rw[pZ.1];exact fN.1) (fun n hn=>Oi (nH.2 (by rw[pZ.1] at hn;exact hn))) (by simp[bT];exact fN.1);refine callsD_of_wp (R:=fun e w'=>∃v,e= .returned v/\Below w.heap.size w w') hf wT ?_;refine zM ho fN.2 c [] (Er fn) b F3 _ ex aN aA7 _ w hF _ fun a' w' dI=> ?_;have fin:=fun hv=>Qu (P:=P) eA dI (y:=y) hv;cases ex with
 |n=>obtain⟨h1,v,h2,v',h3,h4,_⟩:=fin hv;exact⟨h1,v,h2,v',h3,h4⟩
 |r=>obtain⟨h1,v,h2,v',h3,h4,_⟩:=fin hv;exact⟨h1,v,h2,v',h3,h4⟩
 |e id=>cases hv
 cases hv;cases hc
omit [cB] in
def bE3 {id:Nat}{aJ:Array Oper}{o1 o2:Oper}{f d:Nat}{cs:Array Operand}(h:aJ= #[o1,o2])(g1:o1.guard=none)(g2:o2.guard=none)(h1:o1.op= .makeFunc (.func f) #[] cs)(d1:o1.dst=some d)
  (h2:o2.op= .defer {callee:= .value (.tmp d),args:= #[],argTypes:= #[]})(d2:o2.dst=none)(hd:d<a.tmps.size){Q:Exit->Act->World->Prop}
  (hQ:Q .normal {a.put (some d) (.func (.func f) #[] (cs.map a.eval)) with defers:={target:= .fn (.func f) (cs.map a.eval),args:= #[]}::a.defers} w):(Code.region id aJ false).wp P Q a w:=by
 refine yX ?_;subst h;have iQ:(a.put (some d) (.func (.func f) #[] (cs.map a.eval))).eval (.tmp d)= .func (.func f) #[] (cs.map a.eval):=by simp[Act.eval,Act.put,hd]
 have r1:(execOp a.eval o1).run P w= .ok (.value (.func (.func f) #[] (cs.map a.eval))) w:=by simp[execOp,h1,Instr.makeFunc]
 have r2:(execOp (a.put (some d) (.func (.func f) #[] (cs.map a.eval))).eval o2).run P w= .ok (.defer {target:= .fn (.func f) (cs.map a.eval),args:= #[]}) w:=by simp[execOp,h2,resolve,Deferred.ofValue,iQ]
 refine(?_:wpOps P #[o1,o2] Q [0,1] a w);simp only[wpOps,show(#[o1,o2]:Array Oper)[0]? =some o1 from rfl,show(#[o1,o2]:Array Oper)[1]? =some o2 from rfl];rw[aY (by simp[Region.wanted,g1])];left;unfold Oper.wp;rw[r1];simp only[Oper.upon,d1];rw[aY (by simp[Region.wanted,g2])];left;rw[r2];simp only[d2];exact hQ
end
end Go.VM
