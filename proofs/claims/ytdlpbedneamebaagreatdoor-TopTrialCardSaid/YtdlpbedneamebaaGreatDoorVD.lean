/-
The evaluator and its soundness: part of the proof of the last text.
-/
import Derived.Test.YtdlpbedneamebaaGreatDoorVA
import Derived.Lib.ConvBytes
set_option linter.all false
namespace Go.VM
open Go.RowKit
variable [cB]
section
variable {P:Program} {nt:Nat} {keep:List Nat} {S:Nat->Prop} {aD:Nat} {w0:World} {aA aN:aG} {a:Act} {w:World} {o:aU}
def add_zero (g j:Nat):(⟨g,0,none⟩:Addr).add j=⟨g,j,none⟩:=by unfold Addr.add;split<;>simp_all
def FI.store (hF:FI P nt keep S aD w0 aA a w){m:Nat}{x x':V}{u:Value}(hx:aF m aA=some x)(cA:x.isOwn=true)(hu:tm a m=some u){g:Nat}(hg:dR u=some g){cur:Array Value}{ty:TypeId}(hh:w.heap[g]? =some (.cells cur ty (0,0)))(FV:x'.isOwn=true)
  (hpe:∀bW,frz x'= .l bW->∃es,frz x= .l es/\∀k,(∀e∈es,e.cells.length=k)->∀e∈bW,e.cells.length=k){new:Array Value}
  (h:∀Im:Nat->Prop,(∀b,S b->Im b)->(∀b,Im b->(S b\/aD<=b)/\b<w.heap.size)->¬Im g->aD<=g->(∀p:Addr,Im p.block->(w.setRow g new).cell? p=w.cell? p)->d8 P Im w aD aA (tm a)->fL P Im (w.setRow g new) aD u x'):
  FI P nt keep S aD w0 (VM.put m x' aA) a (w.setRow g new):=by
 obtain⟨Im,cE,bK,hE⟩:=hF.ents;have bE:=cO.lt hE (n:=m) (c:=none) ⟨x,u,hx,cA,hu,hg⟩;have gF:∀b,Im b->(w.setRow g new).heap[b]? =w.heap[b]? :=fun b hb=>yW w g b new fun e=>bE.2.2 (e▸hb);have eA:=h Im cE bK bE.2.2 bE.2.1 (fun p hp=>CN (gF _ hp)) hE;have dA:(w.setRow g new).heap.size=w.heap.size:=by simp[World.setRow]
 have s9:=(VS FV).1;refine⟨hF.srt.put m x',hF.size,hF.defers,hF.below.trans ⟨rfl,rfl,rfl,by rw[dA];exact dD _,fun k hk=>yW w g k new (by omega)⟩,fun b hb=>(gF b (cE b hb)).trans (hF.kept b hb),by rw[dA];exact hF.bsz,fun n y hy=> ?_,Im,cE,fun b hb=>by rw[dA];exact bK b hb,?_⟩;rw[kZ] at hy;by_cases hn:n=m;rw[hn];exact hF.keys m x hx;rw[aK hn] at hy;exact hF.keys n y hy;refine hE.upd hx hu (VS FV).2.1 gF (fun n c g' hn ho=>yW w g g' new fun e=>hn ?_) hpe (by rw[fT.res1 s9];exact eA) fun c g' ho=> ?_;subst e;exact(hE.apart n c m none g' ho ⟨x,u,hx,cA,hu,hg⟩).1;cases c with
 |none=>obtain⟨z,v,_,_,hT,jR⟩:=ho;have:=hu.symm.trans hT;cases this;exact⟨x,u,hx,cA,hu,jR⟩
 |some j=>obtain⟨zs,_,_,_,hz,_⟩:=ho;rw[kZ,aY rfl] at hz;cases hz;exact absurd rfl ((VS FV).2.2 zs)
def YR {t:TypeId}{u:Value}{ad:Addr}{g j:Nat}(B':ad=⟨g,j,none⟩){cur:Array Value}{ty:TypeId}(hh:w.heap[g]? =some (.cells cur ty (0,0)))(hs:u.cells.size=P.cellsOf t)(lE:0<P.cellsOf t)(Az:j+u.cells.size<=cur.size)(h1:∀v∈u.cells.toList,v.oneCell'=true):
  (Instr.storeAt t (.pointer (some ad)) u).run P w= .ok () (w.setRow g (cur.toList.take j++u.cells.toList++cur.toList.drop (j+u.cells.toList.length)).toArray):=by
 subst B';obtain⟨i0,wQ⟩:∃i0,P.info? t=some i0:=by unfold Program.cellsOf at lE;cases h:P.info? t with|none=>rw[h] at lE;simp at lE|some i0=>exact⟨i0,rfl⟩
 have:=UJ P g j ty u.cells.toList 0 cur w hh (by simpa using Az) h1;simp only[EZ] at this;simp only[Instr.storeAt,Instr.sureAddr,dX,eU,dQ,storeVar,run_sizeOf w wQ,hs,ne_eq,not_true_eq_false,mW,this]
def aX.oneCell {Im:Nat->Prop}{vs:List Value}{xs:List V}(h:aX Im w vs xs)(hc:∀x∈xs,x.cell=true):∀v∈vs,v.oneCell'=true:=by
 intro v hv;obtain⟨j,hj,rfl⟩:=lH hv;have jH:j<xs.length:=by rw[<-h.1];exact hj
 exact(h.2 j _ _ (eI hj) (eI jH)).oneCell (hc _ (gN jH))
def dC0 {α:Type}(l1 l2 l3 xs:List α)(off:Nat)(ho:off+xs.length<=l2.length):
  (l1++(l2++l3)).take (l1.length+off)++xs++(l1++(l2++l3)).drop (l1.length+off+xs.length)=l1++(l2.take off++xs++l2.drop (off+xs.length))++l3:=by
 rw[LI,rM (by omega:l1.length<=l1.length+off),show l1.length+off - l1.length=off from by omega,LI,show off - l2.length=0 from by omega,List.take_zero,A4,Tn,EW (by omega:l1.length<=l1.length+off+xs.length),DY,show l1.length+off+xs.length - l1.length=off+xs.length from by omega,Tn,show off+xs.length - l2.length=0 from by omega,JK];simp only[AZ]
def dB8 {α:Type}(l xs:List α)(A k off:Nat)(hk:A+k<=l.length)(ho:off+xs.length<=k):
  l.take (A+off)++xs++l.drop (A+off+xs.length)=l.take A++(((l.drop A).take k).take off++xs++((l.drop A).take k).drop (off+xs.length))++l.drop (A+k):=by
 have h1:(l.take A).length=A:=by simp;omega
 have h2:((l.drop A).take k).length=k:=by simp;omega
 have h3:l=l.take A++((l.drop A).take k++l.drop (A+k)):=by rw[<-m3,DZ,DZ]
 have:=dC0 (l.take A) ((l.drop A).take k) (l.drop (A+k)) xs off (by rw[h2];exact ho);rw[<-h3,h1] at this;exact this
def cW1 {α:Type}(L u:List α)(q N:Nat)(h:q+u.length<=N)(hN:N<=L.length):(L.take q++u++L.drop (q+u.length)).take N=(L.take N).take q++u++(L.take N).drop (q+u.length):=by
 have hl:(L.take q++u).length=q+u.length:=by simp;omega
 rw[LI,rM (by rw[hl];exact h),hl,QK,Na (by omega),List.drop_take]
def YQ (hF:FI P nt keep S aD w0 aA a w){t:TypeId}{x v:Operand}{oper:Oper}(aO:oper.op= .store t x v)(lE:0<P.cellsOf t){y:V}(hv:∀Im:Nat->Prop,d8 P Im w aD aA (tm a)->aP Im w (a.eval v) y)(yB:y.cells.length=P.cellsOf t)(hyc:y.cells.all V.cell=true)
  {m:Nat}{cs:List V}(hx:aF m aA=some (.bx cs)){ad:Addr}(hm:tm a m=some (.pointer (some ad))){off:Nat}(hxe:a.eval x= .pointer (some (ad.add off)))(Az:off+P.cellsOf t<=cs.length):
  ∃w1,(execOp a.eval oper).run P w= .ok .skip w1/\FI P nt keep S aD w0 (put m (.bx (splice cs off y.cells)) aA) a w1:=by
 obtain⟨zQ,_,bK,lO⟩:=hF.ents;obtain⟨u,hu,⟨g,vs,ty,rfl,hb,hh,hc,hr⟩,_⟩:=lO.ent m _ hx;have:=hm.symm.trans hu;simp only[aH,UF] at this;subst this;have hr0:=(hv zQ lO).cells;have dA:(a.eval v).cells.size=P.cellsOf t:=by rw[<-yB,<-hr0.1,tJ]
 have RT:∀x∈y.cells,x.cell=true:=fun x hx=>eM.1 hyc x hx;have bY:=YR (P:=P) (t:=t) (u:=a.eval v) (add_zero g off) hh dA lE (by rw[dA];simpa[hr.1] using Az) (hr0.oneCell RT);have aA1:(execOp a.eval oper).run P w= .ok .skip (w.setRow g (vs.take off++(a.eval v).cells.toList++vs.drop (off+(a.eval v).cells.toList.length)).toArray):=by simp only[execOp,aO,hxe,dX,bY,dQ,eU]
 refine⟨_,aA1,hF.store hx rfl hm rfl hh rfl (fun bW h=>by simp[frz] at h) fun Im h1 h2 hg sF dG hE=> ?_⟩;obtain⟨u',cP,⟨g',dU,ty',uD,_,hh',wS,mQ⟩,_⟩:=hE.ent m _ hx;have:=hm.symm.trans cP;cases this;simp only[UF,aH,Addr.mk.injEq,jJ] at uD;subst uD;rw[hh] at hh';simp only[aH,Obj.cells.injEq,jJ] at hh';obtain⟨jP,rfl⟩:=hh';have jP:vs=dU:=by simpa using jP
 subst jP;refine⟨⟨g,vs.take off++(a.eval v).cells.toList++vs.drop (off+(a.eval v).cells.toList.length),ty,rfl,sF,?_,YW wS RT,?_⟩,fun g' jR=> ?_⟩;exact yV w g _ _ ty _ hh;exact(mQ.splice (hv Im hE).cells off).move (fun _ h=>h) dG;simp only[dR,aH] at jR;subst jR;exact hg
def eI8 {k:Nat}{es:List V}{i:Nat}{e e':V}(h:∀e∈es,e.cells.length=k)(he:es[i]? =some e):cL (es.set i e')=(cL es).take (i*k)++e'.cells++(cL es).drop (i*k+k):=by have hi:i<es.length:=(fE.1 he).1;rw[I8 i h,show i*k+k=(i+1)*k from by rw[CM],KR (i+1) h,List.set_eq_take_append_cons_drop,aY hi,BH,tC,AZ]
def cZ3 (hF:FI P nt keep S aD w0 aA a w){t:TypeId}{x v:Operand}{oper:Oper}(aO:oper.op= .store t x v){y:V}(hv:∀Im:Nat->Prop,d8 P Im w aD aA (tm a)->aP Im w (a.eval v) y)(yB:y.cells.length=P.cellsOf t)(hyc:y.cells.all V.cell=true)
  {m e0:Nat}{es:List V}(hx:aF m aA=some (.ow e0 es)){ad:Addr}{l c k i off:Nat}(hm:tm a m=some (.slice (some ad) l c))(hxe:a.eval x= .pointer (some (ad.add (i*k+off))))(hk:∀e∈es,e.cells.length=k){e:V}(he:es[i]? =some e)(lE:0<P.cellsOf t)(Az:off+P.cellsOf t<=e.cells.length):
  ∃w1,(execOp a.eval oper).run P w= .ok .skip w1/\FI P nt keep S aD w0 (put m (.ow e0 (es.set i (Oe e off y))) aA) a w1:=by
 have hi:i<es.length:=(fE.1 he).1;have pF:e.cells.length=k:=hk e (k6 he);obtain⟨zQ,_,bK,lO⟩:=hF.ents;obtain⟨u,hu,⟨vs,⟨hvl,hvv⟩,kD,hc,hr⟩,_⟩:=lO.ent m _ hx;have uB:P.cellsOf e0=k:=by rw[<-pF];exact(kD e (k6 he)).symm
 rcases hvv with⟨_,h0⟩|⟨g,cap,cur,rfl,hb,hh,hn,tB,lG,ht⟩;omega;have:=hm.symm.trans hu;simp only[aH,UG] at this;obtain⟨rfl,rfl,rfl⟩:=this;have hr0:=(hv zQ lO).cells;have dA:(a.eval v).cells.size=P.cellsOf t:=by rw[<-yB,<-hr0.1,tJ]
 have RT:∀x∈y.cells,x.cell=true:=fun x hx=>eM.1 hyc x hx;have Bw:i*k+k<=es.length*k:=by rw[<-CM];exact yR _ hi
 have I3:es.length*k<=cur.size:=by rw[lG,uB];exact yR _ hn
 have bY:=YR (P:=P) (t:=t) (u:=a.eval v) (add_zero g (i*k+off)) hh dA lE (by rw[dA];omega) (hr0.oneCell RT);have wN:(a.eval v).cells.toList.length=P.cellsOf t:=by simpa using dA
 have pV:∃nc:List V,(Oe e off y).cells=nc/\nc=splice e.cells off y.cells:=by
  refine⟨_,rfl,?_⟩;cases e with
  |a cs=>rfl
  |_=>
   simp only[V.cells,fY,vR] at Az;have Ox:off=0:=by omega
   subst Ox;have h1:y.cells.length=1:=by omega
   show y.cells=_;rw[splice,List.take_zero,DY,E0,EW (by rw[h1];exact dD 1),A4]
 obtain⟨nc,rF,MM⟩:=pV;have hncl:nc.length=k:=by rw[MM,dB9 (by rw[yB];exact Az),pF]
 generalize Oe e off y=e' at rF⊢;have aA1:(execOp a.eval oper).run P w= .ok .skip (w.setRow g (cur.toList.take (i*k+off)++(a.eval v).cells.toList++cur.toList.drop (i*k+off+(a.eval v).cells.toList.length)).toArray):=by simp only[execOp,aO,hxe,dX,bY,dQ,eU]
 refine⟨_,aA1,hF.store hx rfl hm rfl hh rfl (fun bW h=> ?_) fun Im h1 h2 hg sF dG hE=> ?_⟩;simp only[frz,V.l.injEq] at h;subst h;refine⟨es,rfl,fun k' gD e2 Cn=> ?_⟩;have hkk':k'=k:=by rw[<-pF];exact(gD e (k6 he)).symm
 rcases Tx Cn with h|rfl;exact gD _ h;rw[rF,hncl,hkk'];obtain⟨u',cP,⟨dU,⟨hvl',hvv'⟩,_,wS,mQ⟩,_⟩:=hE.ent m _ hx;have:=hm.symm.trans cP;cases this;rcases hvv' with⟨h0,_⟩|⟨g',cap',cur',Cn,_,hh',_,_,_,ht'⟩;cases h0;simp only[UG,aH,Addr.mk.injEq,jJ,LN] at Cn;obtain⟨rfl,rfl⟩:=Cn;rw[hh] at hh';simp only[aH,Obj.cells.injEq,jJ] at hh';subst hh';have jP:dU=vs:=by rw[<-ht,<-ht']
 subst jP;rw[uB] at ht hvl;have hvsl:dU.length=es.length*k:=by rw[hvl]
 have hspl:(cur.toList.take (i*k+off)++(a.eval v).cells.toList++cur.toList.drop (i*k+off+(a.eval v).cells.toList.length)).take (es.length*k)=dU.take (i*k)++(((dU.drop (i*k)).take k).take off++(a.eval v).cells.toList++((dU.drop (i*k)).take k).drop (off+(a.eval v).cells.toList.length))++dU.drop (i*k+k):=by rw[<-dB8 dU (a.eval v).cells.toList (i*k) k off (by omega) (by rw[wN];omega),<-ht];exact cW1 _ _ _ _ (by rw[wN];omega) (by simpa using I3)
 have hgs:es.length*P.cellsOf e0=es.length*k:=by rw[uB]
 refine⟨⟨dU.take (i*k)++(((dU.drop (i*k)).take k).take off++(a.eval v).cells.toList++((dU.drop (i*k)).take k).drop (off+(a.eval v).cells.toList.length))++dU.drop (i*k+k),⟨?_,.inr ⟨g,c,_,by rw[QG],sF,yV w g _ _ e0 _ hh,by rw[QG];exact hn,tB,?_,?_⟩⟩,?_,?_,?_⟩,fun g' jR=> ?_⟩
 ·simp only[kH,gO,oW,wN,QG,hgs,hvsl,JO];repeat' split
  all_goals omega
 ·rw[<-lG];simp only[rL,kH,gO,oW,tJ,wN,JO];repeat' split
  all_goals omega
 rw[QG,hgs];exact hspl;intro z hz;rw[uB];rcases Tx hz with h|rfl;exact hk z h;rw[rF,hncl];intro z hz;obtain⟨e2,Cn,vC⟩:=sM.1 hz;rcases Tx Cn with h|rfl;exact wS z (sM.2 ⟨e2,h,vC⟩);rw[rF,MM] at vC;exact YW (fun x hx=>wS x (sM.2 ⟨e,k6 he,hx⟩)) RT z vC;have hf:=eI8 (e':=e') hk he;rw[hf,rF,MM];have hec:((cL es).drop (i*k)).take k=e.cells:=KS hk he;have KG:=((mQ.drop (i*k)).take k).splice (hv Im hE).cells off;rw[hec] at KG;exact(((mQ.take (i*k)).append KG).append (mQ.drop (i*k+k))).move (fun _ h=>h) dG;simp only[dR,aH] at jR;subst jR;exact hg
end
end Go.VM
namespace Go.VM
open Go.RowKit
variable [cB]
section
variable {P:Program} {nt:Nat} {keep:List Nat} {S:Nat->Prop} {aD:Nat} {w0:World} {aA aN:aG} {a:Act} {w:World} {o:aU}
def Qq {x:Operand}{n:Nat}(hs:cS x=some (.t n)):x= .tmp n:=by cases x with|tmp n'=>simp only[cS,aH,bF.t.injEq] at hs;subst hs;rfl|const c=>simp only[cS] at hs;cases hc:pR c<;>rw[hc] at hs<;>cases hs|func f=>simp[cS] at hs|global g=>simp only[cS] at hs;cases hc:yH g<;>rw[hc] at hs<;>cases hs
def cZ4 (hF:FI P nt keep S aD w0 aA a w){t:TypeId}{x v:Operand}{s sv:bF}{oper:Oper}(aO:oper.op= .store t x v)(hs:cS x=some s)(hsv:cS v=some sv)
  (aC:bS o aA (.sto (P.cellsOf t) s sv)=some aN)(lE:0<P.cellsOf t):∃w1,(execOp a.eval oper).run P w= .ok .skip w1/\FI P nt keep S aD w0 aN a w1:=by
 cases s with
 |c c0=>simp[bS] at aC
 |t n=>
  have:=Qq hs;subst this;simp only[bS] at aC;cases hl:dK aA sv with
  |none=>rw[hl] at aC;cases aC
  |some y=>
   rw[hl] at aC;simp only[aZ] at aC;split at aC
   ·rename_i hy;have dI:=hF.freeze [sv];have zG:dK (freeze aA [sv]) sv=some y:=by
     have h:=Jz [sv] aA [sv];simp only[eC,hl,aZ] at h;cases h':dK (freeze aA [sv]) sv with|none=>rw[h'] at h;cases h|some v'=>rw[h'] at h;simp only[aZ,aH,gG,jJ] at h;rw[h]
    have hv:∀Im:Nat->Prop,d8 P Im w aD (freeze aA [sv]) (tm a)->aP Im w (a.eval v) y:=fun Im hE=>Dl hE hsv ((IN [sv] aA).2 sv (dC ..)) zG;obtain⟨zQ,_,_,lO⟩:=dI.ents;cases hx:aF n (freeze aA [sv]) with
    |none=>rw[hx] at aC;cases aC
    |some z=>
     rw[hx] at aC;simp only[aZ] at aC;obtain⟨u,t6,gQ⟩:=lO.ent n z hx;have whole:∀(cs:List V),cs.length=P.cellsOf t->splice cs 0 y.cells=y.cells:=fun cs hc=>by unfold splice;rw[List.take_zero,DY,E0,EW (by omega),A4]
     cases z with
     |bx cs=>simp only at aC;split at aC;rename_i hc;cases aC;obtain⟨⟨g,vs,ty,rfl,_⟩,_⟩:=gQ;have h:=YQ dI aO lE hv hy.1 hy.2 hx t6 (off:=0) (by rw[eW t6];simp[Addr.add]) (by omega);rwa[whole cs hc] at h;cases aC
     |al m=>
      simp only at aC;cases hz:aF m (freeze aA [sv]) with
      |none=>rw[hz] at aC;cases aC
      |some z=>
       rw[hz] at aC;simp only[aZ] at aC;cases z<;>first |(cases aC;done)|skip
       rename_i cs;simp only at aC;split at aC;rename_i hc;cases aC;have hm:tm a m=some u:=gQ;obtain⟨u',cP,hez⟩:=lO.ent m _ hz;have:=hm.symm.trans cP;cases this;obtain⟨⟨g,vs,ty,rfl,_⟩,_⟩:=hez;have h:=YQ dI aO lE hv hy.1 hy.2 hz hm (off:=0) (by rw[eW t6];simp[Addr.add]) (by omega);rwa[whole cs hc] at h;cases aC
     |pb m off k=>
      simp only at aC;split at aC
      ·cases hz:aF m (freeze aA [sv]) with
       |none=>rw[hz] at aC;cases aC
       |some z=>
        rw[hz] at aC;simp only[aZ] at aC;cases z<;>first |(cases aC;done)|skip
        rename_i cs;simp only at aC;split at aC;rename_i hc;cases aC;obtain⟨ad,hm,rfl⟩:=gQ;exact YQ dI aO lE hv hy.1 hy.2 hz hm (eW t6) hc;cases aC
      cases aC
     |pe m i off k=>
      simp only at aC;split at aC
      ·cases hz:aF m (freeze aA [sv]) with
       |none=>rw[hz] at aC;cases aC
       |some z=>
        rw[hz] at aC;simp only[aZ] at aC;cases z<;>first |(cases aC;done)|skip
        rename_i e0 es;simp only at aC;cases he:es[i]? with|none=>rw[he] at aC;cases aC|some e=>rw[he] at aC;simp only[aZ] at aC;split at aC;rename_i hc;cases aC;obtain⟨ad,l,c,kk,hm,rfl,h3⟩:=gQ;exact cZ3 dI aO hv hy.1 hy.2 hz hm (eW t6) (h3 _ es hz rfl) he hc.1 hc.2;cases aC
      cases aC
     |_=>cases aC
   cases aC
def dV6 {Im:Nat->Prop}(hE:d8 P Im w aD aA (tm a)){n:Nat}{es:List V}(hv:iH aA n=some (.l es)):
  ∃(ad:Option Addr) (c:Nat) (vs:List Value),tm a n=some (.slice ad es.length c)/\aX Im w vs (cL es)/\(∀x∈cL es,x.cell=true)/\(es=[]\/∃a0,ad=some a0/\∀(j:Nat) u,vs[j]? =some u->w.cell? (a0.add j)=some u):=by
 have row:∀{m:Nat} {x:V},aF m aA=some x->BK x=some (.l es)->∃(ad:Option Addr) (c:Nat) (vs:List Value),tm a m=some (.slice ad es.length c)/\aX Im w vs (cL es)/\(∀x∈cL es,x.cell=true)/\(es=[]\/∃a0,ad=some a0/\∀(j:Nat) u,vs[j]? =some u->w.cell? (a0.add j)=some u):=by
  intro m x hx hr;obtain⟨hs,hf⟩:=IH hr;obtain⟨u,hu,he⟩:=hE.ent m x hx;rw[fT.res1 hs] at he;by_cases bM:es=[];subst bM;cases x with
  |l bW=>simp only[frz,V.l.injEq] at hf;subst hf;obtain⟨ad,c,_,vs,rfl,_,h1,h2,_,_⟩:=aP.slice he;exact⟨ad,c,vs,hu,h2,h1,.inl rfl⟩
  |ow e bW=>simp only[frz,V.l.injEq] at hf;subst hf;obtain⟨⟨vs,⟨hl,hv⟩,_,h1,h2⟩,_⟩:=he;rcases hv with⟨rfl,_⟩|⟨g,cap,cur,rfl,_⟩;exact⟨none,0,vs,hu,h2,h1,.inl rfl⟩;exact⟨_,cap,vs,hu,h2,h1,.inl rfl⟩
  |_=>simp[frz] at hf
  obtain⟨ad,c,k,vs,rfl,_,hc,hr,dG⟩:=YZ he hf.symm bM;exact⟨some ad,c,vs,hu,hr,hc,.inr ⟨ad,rfl,dG⟩⟩
 unfold iH at hv;cases hx:aF n aA with
 |none=>rw[hx] at hv;cases hv
 |some x=>
  rw[hx] at hv;cases x with
  |al m=>simp only at hv;obtain⟨u,hu,he⟩:=hE.ent n _ hx;cases hm:aF m aA with|none=>rw[hm] at hv;cases hv|some y=>rw[hm] at hv;obtain⟨ad,c,vs,h1,h⟩:=row hm hv;have:tm a m=some u:=he;have:=this.symm.trans h1;cases this;exact⟨ad,c,vs,hu,h⟩
  |pe m i off sz=>
   simp only at hv;cases hz:(aF m aA).bind BK with
   |none=>rw[hz] at hv;cases hv
   |some z=>
    rw[hz] at hv;cases z<;>first |(cases hv;done)|skip
    simp only[bL,gY] at hv;obtain⟨_,_,_,_,h⟩:=hv;cases h
  |pb m off sz=>
   simp only at hv;cases hz:(aF m aA).bind BK with
   |none=>rw[hz] at hv;cases hv
   |some z=>
    rw[hz] at hv;cases z<;>first |(cases hv;done)|skip
    simp only[gY] at hv;obtain⟨_,_,h⟩:=hv;cases h
  |_=>exact row hx hv
def bL7 {Im:Nat->Prop}(hE:d8 P Im w aD aA (tm a)){x:Operand}{s:bF}(hs:cS x=some s){es:List V}(hv:dK aA s=some (.l es)):
  ∃(ad:Option Addr) (c:Nat) (vs:List Value),a.eval x= .slice ad es.length c/\aX Im w vs (cL es)/\(∀x∈cL es,x.cell=true)/\(es=[]\/∃a0,ad=some a0/\∀(j:Nat) u,vs[j]? =some u->w.cell? (a0.add j)=some u):=by
 cases s with
 |t n=>have:=Qq hs;subst this;obtain⟨ad,c,vs,h1,h⟩:=dV6 hE hv;exact⟨ad,c,vs,eW h1,h⟩
 |c c0=>
  have hr:=Dl hE hs (fun m x hm=>by simp[owner] at hm) hv;have yD:es=[]:=by
   cases x with
   |tmp n=>simp[cS] at hs|const c=>simp only[cS] at hs;cases hc:pR c with|none=>rw[hc] at hs;cases hs|some c'=>rw[hc] at hs;cases hs;simp only[dK,aH] at hv;rw[(Ob hc).2.2] at hv;subst hv;unfold pR at hc;split at hc;rename_i cs';cases h:Dp cs'.toList<;>rw[h] at hc<;>cases hc;unfold Eu at hc;split at hc<;>cases hc;rfl
   |func f=>simp only[cS,aH,bF.c.injEq] at hs;subst hs;simp[dK,frz] at hv
   |global g=>simp only[cS] at hs;cases hc:yH g with
    |none=>rw[hc] at hs;cases hs|some c'=>rw[hc] at hs;cases hs;obtain⟨cs',rfl⟩:=Rj hc;simp[dK,frz] at hv
  subst yD;obtain⟨ad,c,_,vs,h0,_,h1,h2,_,_⟩:=hr.slice;exact⟨ad,c,vs,h0,h2,h1,.inl rfl⟩
def cB9 {t e:TypeId}{i:TypeInfo}{z:Value}{size bytes:Nat}(ht:P.underlying t=some (.slice e))(hi:P.info? e=some i)(hz:i.zero=some z)(hsize:i.size=size)(F4:i.bytes=bytes)(gP:z.cells.size=size)(dA:0<size)
  (ty:TypeId){v:Value}{n:Nat}{xs:List Value}(cA:w.ownsRow aD e size v n xs){ad:Option Addr}{m c:Nat}{news:List Value}(hl:news.length=m*size)(pU:m=0\/∃a0,ad=some a0/\∀(j:Nat) u,news[j]? =some u->w.cell? (a0.add j)=some u)(h1:∀u∈news,u.oneCell'=true)
  (BD:n+m<=maxLen)(hbytes:(n+m)*bytes<=140737488355328)(F5:aD<=w.heap.size):
  ∃v' w',(Builtin.append_ #[t,t] ty #[v,.slice ad m c]).run P w= .ok v' w'/\w'.ownsRow aD e size v' (n+m) (xs++news)/\w.grownBy w' v.ownBlock/\(v'.ownBlock=v.ownBlock\/v'.ownBlock=some w.heap.size):=by
 cases ad with
 |some a0=>
  obtain⟨v',w',h2,h3,h4,_,h5⟩:=Xd (P:=P) w aD t ty e i z size bytes ht hi hz hsize F4 gP dA v n xs cA a0 m c news hl (by
   rcases pU with rfl|⟨a1,h,hc⟩;have:news=[]:=pL (by simpa using hl);subst this;simp;cases h;exact hc) h1 BD hbytes F5
  exact⟨v',w',h2,h3,h4,h5⟩
 |none=>
  have hm:m=0:=by rcases pU with rfl|⟨a1,h,_⟩;rfl;cases h
  subst hm;have:news=[]:=pL (by simpa using hl);subst this;refine⟨v,w,?_,by simpa using cA,⟨rfl,rfl,rfl,dD _,fun _ _ _=>rfl⟩,.inl rfl⟩;rcases cA.2 with⟨rfl,rfl⟩|⟨g,cap,cur,rfl,_,_,rF,_⟩;simp[Builtin.append_,eE ht,sizeOf,typeInfo,hi,Builtin.lenOf,Builtin.firstCells];simp[Builtin.append_,eE ht,sizeOf,typeInfo,hi,Builtin.lenOf,Builtin.firstCells,rF,storeCells]
end
end Go.VM
namespace Go.VM
open Go.RowKit
variable [cB]
section
variable {P:Program} {nt:Nat} {keep:List Nat} {S:Nat->Prop} {aD:Nat} {w0:World} {aA aN:aG} {a:Act} {w:World} {o:aU}
def d8.keepW {Im:Nat->Prop}{T:Tm}{w':World}(h:d8 P Im w aD aA T)(hI:∀b,Im b->w'.heap[b]? =w.heap[b]?)(hO:∀m c g,cO aA T m c g->w'.heap[g]? =w.heap[g]?):d8 P Im w' aD aA T:=by
 refine⟨fun n x hx=> ?_,h.closed,h.apart,h.glob.move (fun _ h=>h) fun p hp=>by simp only[World.cell?,hI _ hp]⟩;obtain⟨u,hu,he⟩:=h.ent n x hx;refine⟨u,hu,?_⟩;by_cases kM:x.smp=true;rw[fT.res1 kM] at he⊢;exact he.keepW hI fun ho g hg=>hO n none g ⟨x,u,hx,ho,hu,hg⟩;cases x with
 |t ys=>obtain⟨us,rfl,hl,hh⟩:=he;refine⟨us,rfl,hl,fun j v y hj hy=> ?_⟩;rcases hh j v y hj hy with h1|h1;exact .inl h1;exact .inr (h1.keepW hI fun ho g hg=>hO n (some j) g ⟨ys,us,y,v,hx,hu,hy,ho,hj,hg⟩)
 |al k=>exact he|pe k i off sz=>exact he|pb k off sz=>exact he|ud=>exact he|_=>exact absurd rfl kM
def Gj {e:TypeId}{size n:Nat}{v:Value}{xs:List Value}(h:w.ownsRow aD e size v n xs):v.ownBlock=dR v:=by rcases h.2 with⟨rfl,_⟩|⟨g,cap,cur,rfl,_⟩<;>rfl
def FI.grown (hF:FI P nt keep S aD w0 aA a w){d:Nat}(hk:d∈keep)(hd:d<nt){aT:aG}(cJ:cH aT)(k9:∀n x,aF n aT=some x->aF n aA=some x)(cK:∀n x m,aF n aT=some x->x.names=some m->∃y,aF m aT=some y/\y.names=none)
  {Im:Nat->Prop}(cE:∀b,S b->Im b)(bK:∀b,Im b->(S b\/aD<=b)/\b<w.heap.size)(hE:d8 P Im w aD aA (tm a)){row:Option Nat}(hrow:∀g,row=some g->aD<=g/\¬Im g/\∀n c,¬cO aT (tm a) n c g){w':World}(hg:w.grownBy w' row)
  {v':Value}(dZ:∀g,v'.ownBlock=some g->row=some g\/w.heap.size<=g){e:TypeId}{es:List V}{vs:List Value}(how:w'.ownsRow aD e (P.cellsOf e) v' es.length vs)(yD:∀x∈es,x.cells.length=P.cellsOf e)(hc:∀x∈cL es,x.cell=true)(hr:aX Im w vs (cL es)):
  FI P nt keep S aD w0 (put' d (.ow e es) aT) (a.put (some d) v') w':=by
 have lN:d<a.tmps.size:=by rw[hF.size];exact hd
 have gF:∀b,Im b->w'.heap[b]? =w.heap[b]? :=fun b hb=>hg.block b (bK b hb).2 fun e=>(hrow b e.symm).2.1 hb;have Cr:d8 P Im w aD aT (tm a):=hE.sub k9 cK;have hE2':d8 P Im w' aD aT (tm a):=Cr.keepW gF fun m c g ho=>hg.block g (cO.lt Cr ho).1 fun e=>(hrow g e.symm).2.2 m c ho;have hblk:∀g,dR v'=some g->(row=some g\/w.heap.size<=g):=fun g h=>dZ g (by rw[Gj how];exact h);have hOwn:GI P Im w' aD e es v':=⟨vs,how,yD,hc,hr.move (fun _ h=>h) fun p hp=>CN (gF _ hp)⟩;have ho1:∀c g,cO (put' d (.ow e es) aT) (tm (a.put (some d) v')) d c g->c=none/\dR v'=some g:=by
  intro c g h;cases c with
  |none=>obtain⟨z,v,hz,_,hT,hg⟩:=h;rw[jF lN,aY rfl] at hT;cases hT;exact⟨rfl,hg⟩
  |some j=>obtain⟨ys,_,_,_,hz,_⟩:=h;rw[gJ cJ,aY rfl] at hz;cases hz
 refine⟨cJ.put' _ _,by simpa[Act.put] using hF.size,hF.defers,hF.below.trans ⟨hg.os,hg.tape,hg.output,hg.size,fun k hk=>hg.block k (vU hk hF.bsz) fun e=>by have:=(hrow k e.symm).1;omega⟩,fun b hb=>(gF b (cE b hb)).trans (hF.kept b hb),fG hF.bsz hg.size,fun n x hx=> ?_,Im,cE,fun b hb=>⟨(bK b hb).1,vU (bK b hb).2 hg.size⟩,?_⟩;by_cases hn:n=d;rw[hn];exact⟨hk,hd⟩;rw[gJ cJ,aK hn] at hx;have lX:∃z,aF n aT=some z:=by cases hq:aF d aT with|none=>rw[hq] at hx;exact⟨_,hx⟩|some q=>rw[hq] at hx;simp only at hx;cases dE:aF n aT with|none=>rw[dE] at hx;cases hx|some z'=>exact⟨z',rfl⟩
 obtain⟨z,hz⟩:=lX;exact hF.keys n z (k9 n z hz);refine hE2'.put cJ d _ v' ((jF lN d).trans (aY rfl)) (fun m y hm _=>(jF lN m).trans (aK hm)) ?_ (fun m hm=>by cases hm) (fun c g h n' c' _ h'=> ?_) (fun c c' g h h'=>(ho1 c g h).1.trans (ho1 c' g h').1.symm);refine⟨hOwn,fun g jR hI=> ?_⟩;rcases hblk g jR with h|wP;exact(hrow g h).2.1 hI;have:=(bK _ hI).2;omega;rcases hblk g (ho1 c g h).2 with h2|wP;exact(hrow g h2).2.2 n' c' h';have:=(cO.lt Cr h').1;omega
def dB7 {t:TypeId}{x:Operand}{e:Nat}(h:m9 P t x=some (.c (.ow e []))):a.eval x= .slice none 0 0:=by
 cases x with
 |tmp n=>simp[m9] at h|func f=>simp[m9] at h|global g=>simp[m9] at h
 |const c=>simp only[m9] at h;cases hc:Fk P t c with|none=>rw[hc] at h;cases h|some v=>rw[hc] at h;simp only[eB,aH,bF.c.injEq] at h;subst h;unfold Fk at hc;split at hc;rfl;cases hc;have:=(Ob hc).1;simp[V.isOwn] at this
def dB2 (hF:FI P nt keep S aD w0 aA a w){d:Nat}(hk:d∈keep)(hd:d<nt){t e k b:Nat}{zc:List V}{x y:Operand}{s sy:bF}{oper:Oper}(aO:oper.op= .call {callee:= .builtin .append,args:= #[x,y],argTypes:= #[t,t]})
  (uC:AS P t=some k)(AL:KV P t=some b)(iR:CG P t=some e)(hz:sK P e=some zc)(fN:0<k/\0<b/\zc.length=k)(hs:m9 P t x=some s)(hy:cS y=some sy)
  (aC:bS o aA (.app d e k b s sy)=some aN):∃u w1,(execOp a.eval oper).run P w= .ok (.value u) w1/\FI P nt keep S aD w0 aN (a.put (some d) u) w1:=by
 have hu:P.underlying t=some (.slice e):=by unfold CG at iR;split at iR;rename_i e' hu;cases iR;exact hu;cases iR
 obtain⟨i,hi,Bw,hib⟩:∃i,P.info? e=some i/\i.size=k/\i.bytes=b:=by simp only[AS,KV,hu] at uC AL;cases h:P.info? e with|none=>rw[h] at uC;cases uC|some i=>rw[h] at uC AL;exact⟨i,rfl,by simpa using uC,by simpa using AL⟩
 have uB:P.cellsOf e=k:=by simp[Program.cellsOf,hi,Bw]
 obtain⟨zv,FF,gP⟩:∃zv,i.zero=some zv/\zv.cells.size=k:=by unfold sK at hz;rw[hi] at hz;simp only[aZ] at hz;cases h:i.zero with|none=>rw[h] at hz;cases hz|some zv=>rw[h] at hz;simp only[aZ] at hz;obtain⟨r1,_⟩:=Oc (S:=fun _=>False) (w:=w) hz;exact⟨zv,rfl,by rw[<-tJ,r1.1];exact fN.2.2⟩
 simp only[bS] at aC;cases hl:dK aA sy with
 |none=>rw[hl] at aC;cases aC
 |some yv=>
  rw[hl] at aC;simp only[aZ] at aC;cases yv<;>first |(cases aC;done)|skip
  rename_i ys;simp only at aC;split at aC
  ·rename_i eG;have yG:∀x∈ys,x.cells.length=k:=fun x hx=>by simpa using eM.1 eG x hx
   obtain⟨Im,cE,bK,hE⟩:=hF.ents;obtain⟨ad,c,news,hye,hyr,hyc,RS⟩:=bL7 hE hy hl;have hnl:news.length=ys.length*k:=by rw[hyr.1,Vn yG]
   have lF:=hyr.oneCell hyc;have bI:∀(v v':Value) (w':World),a.eval x=v->(Builtin.append_ #[t,t] oper.type #[v,.slice ad ys.length c]).run P w= .ok v' w'->(execOp a.eval oper).run P w= .ok (.value v') w':=by intro v v' w' hx hr;simp[execOp,aO,resolve,invoke,builtin,hx,hye,hr]
   cases s with
   |c v0=>
    cases v0 with
    |ow e' es0=>
     cases es0 with
     |nil=>
      simp only at aC;split at aC;rename_i hc;cases aC;obtain⟨rfl,aA9⟩:=hc;have hx:a.eval x= .slice none 0 0:=dB7 hs;obtain⟨v',w',h1,h2,h3,h4⟩:=cB9 (P:=P) (aD:=aD) hu hi FF Bw hib gP fN.1 oper.type (LJ w aD e' k) (ad:=ad) (m:=ys.length) (c:=c) hnl (by
       rcases RS with rfl|h;exact .inl rfl;exact .inr h) lF (by
       have:ys.length<=ys.length*b:=Xa _ fN.2.1;simp only[maxLen];omega) (by simpa using aA9) hF.bsz
      refine⟨v',w',bI _ _ _ hx h1,hF.grown hk hd hF.srt (fun _ _ h=>h) hE.closed cE bK hE (fun g hg=>by simp[Value.ownBlock] at hg) h3 (aB0 h4) (by rw[uB];simpa using h2) (fun x hx=>(yG x hx).trans uB.symm) hyc (by simpa using hyr)⟩;cases aC
     |cons _ _=>simp at aC
    |_=>simp at aC
   |t n=>
    have FL:x= .tmp n:=by cases x with|tmp n'=>simp only[m9,aH,bF.t.injEq] at hs;subst hs;rfl|const c=>simp only[m9] at hs;cases hc:Fk P t c<;>rw[hc] at hs<;>cases hs|func f=>simp[m9] at hs|global g=>simp[m9] at hs
    subst FL;simp only at aC;cases how:wG aA n with
    |none=>rw[how] at aC;cases aC
    |some m=>
     rw[how] at aC;simp only[aZ] at aC;cases hm:aF m aA with
     |none=>rw[hm] at aC;cases aC
     |some z=>
      rw[hm] at aC;simp only[aZ] at aC;cases z<;>first |(cases aC;done)|skip
      rename_i e' es;simp only at aC;split at aC;rename_i hc;cases aC;obtain⟨rfl,aA9,_⟩:=hc;obtain⟨u,vD,gQ⟩:=hE.ent m _ hm;have hn:a.eval (.tmp n)=u/\∃x,aF n aA=some x/\(n=m\/x.names=some m):=by unfold wG at how;split at how;rename_i q hx;cases how;obtain⟨u',cP,uD⟩:=hE.ent n _ hx;have:=vD.symm.trans uD;cases this;exact⟨eW cP,_,hx,.inr rfl⟩;rename_i hx;cases how;exact⟨eW vD,_,hx,.inl rfl⟩;cases how
      obtain⟨hx,xn,Dy,tA⟩:=hn;have fM:cH (eH m aA):=hF.srt.filter _;have cJ:cH (cN m (eH m aA)):=fM.filter _;have hs3:cH (cN n (cN m (eH m aA))):=cJ.filter _;have k9:∀q x,aF q (cN n (cN m (eH m aA)))=some x->aF q aA=some x/\q≠m/\x.names≠some m/\x.names≠some n:=by intro q x hq;rw[uH cJ,uH fM,f' hF.srt] at hq;by_cases pS:q=m;rw[aY pS] at hq;cases hq;rw[aK pS] at hq;cases dE:aF q aA with|none=>rw[dE] at hq;cases hq|some x'=>rw[dE] at hq;simp only[aZ] at hq;split at hq;cases hq;simp only[aZ] at hq;split at hq;cases hq;cases hq;exact⟨rfl,pS,‹_›,‹_›⟩
      have ME:∀q x,q≠m->aF q aA=some x->x.names≠some m->x.names≠some n->aF q (cN n (cN m (eH m aA)))=some x:=by intro q x pS hq h1 h2;rw[uH cJ,uH fM,f' hF.srt,aK pS,hq];simp only[aZ];rw[aK h1];simp only[aZ];rw[aK h2]
      obtain⟨⟨vs,nN,qM,sA,tZ⟩,oD⟩:=gQ;obtain⟨v',w',h1,h2,h3,h4⟩:=cB9 (P:=P) (aD:=aD) hu hi FF Bw hib gP fN.1 oper.type (n:=es.length) (by rw[<-uB];exact nN) (ad:=ad) (m:=ys.length) (c:=c) hnl (by
        rcases RS with rfl|h;exact .inl rfl;exact .inr h) lF (by
        have:es.length+ys.length<=(es.length+ys.length)*b:=Xa _ fN.2.1;simp only[maxLen];omega) aA9 hF.bsz
      refine⟨v',w',bI _ _ _ hx h1,hF.grown hk hd hs3 (fun q x h=>(k9 q x h).1) (fun q x j hq hj=> ?_) cE bK hE (row:=u.ownBlock) (fun g hg=> ?_) h3 (aB0 h4) (by rw[uB,kH];exact h2) (fun x hx=> ?_) (fun x hx=> ?_) (by rw[BH];exact tZ.append hyr)⟩;obtain⟨g1,g2,g3,g4⟩:=k9 q x hq;obtain⟨z,hz,jZ⟩:=hE.closed q x j g1 hj;exact⟨z,ME j z (fun e=>g3 (by rw[<-e];exact hj)) hz (by rw[jZ];simp) (by rw[jZ];simp),jZ⟩;have hbu:dR u=some g:=by rw[<-Gj nN];exact hg
      have ho:cO aA (tm a) m none g:=⟨_,u,hm,rfl,vD,hbu⟩;have bE:=cO.lt hE ho;refine⟨bE.2.1,bE.2.2,fun q c' hq=> ?_⟩;have hqo:cO aA (tm a) q c' g/\q≠m:=by
       cases c' with
       |none=>obtain⟨x,v,hx,h⟩:=hq;exact⟨⟨x,v,(k9 _ _ hx).1,h⟩,(k9 _ _ hx).2.1⟩
       |some j=>obtain⟨zs,us,x,v,hx,h⟩:=hq;exact⟨⟨zs,us,x,v,(k9 _ _ hx).1,h⟩,(k9 _ _ hx).2.1⟩
      exact hqo.2 (hE.apart _ _ _ _ _ hqo.1 ho).1;rcases iC.1 hx with h|h;exact qM x h;exact(yG x h).trans uB.symm;rw[BH] at hx;rcases iC.1 hx with h|h;exact sA x h;exact hyc x h;cases aC
  cases aC
def FI.grow (hF:FI P nt keep S aD w0 aA a w){w1:World}(hb:Below w.heap.size w w1):FI P nt keep S aD w0 aA a w1:=by obtain⟨Im,cE,bK,hE⟩:=hF.ents;exact⟨hF.srt,hF.size,hF.defers,hF.below.trans (hb.mono hF.bsz),(fun b nT=>(hb.block b (bK b (cE b nT)).2).trans (hF.kept b nT)),fG hF.bsz hb.size,hF.keys,Im,cE,fun b h=>⟨(bK b h).1,vU (bK b h).2 hb.size⟩,hE.move (fun _ h=>h) (fun n c g ho=>(cO.lt hE ho).2.2) (fun b fD=>hb.block b fD) fun b h=>(bK b h).2⟩
def fL.lower {Im:Nat->Prop}{B:Nat}{v:Value}{y:V}(h:fL P Im w B v y)(hB:aD<=B):fL P Im w aD v y:=by
 cases y with
 |ow e es=>obtain⟨⟨vs,⟨hl,hv⟩,h⟩,hn⟩:=h;refine⟨⟨vs,⟨hl,?_⟩,h⟩,hn⟩;rcases hv with h|⟨g,cap,cur,rfl,h2,h3⟩;exact .inl h;exact .inr ⟨g,cap,cur,rfl,fG hB h2,h3⟩
 |bx cs=>obtain⟨⟨g,vs,ty,rfl,h2,h⟩,hn⟩:=h;exact⟨⟨g,vs,ty,rfl,fG hB h2,h⟩,hn⟩
 |mp ks vs=>obtain⟨⟨g,es,c,rfl,h2,h⟩,hn⟩:=h;exact⟨⟨g,es,c,rfl,fG hB h2,h⟩,hn⟩
 |al n=>exact h|pe a b c d=>exact h|pb a b c=>exact h|t ys=>exact h|ud=>exact h|_=>exact h
def fL.fresh {Im:Nat->Prop}{B:Nat}{v:Value}{y:V}(h:fL P Im w B v y)(ho:y.isOwn=true){g:Nat}(hg:dR v=some g):B<=g:=by
 cases y with
 |ow e es=>obtain⟨⟨vs,⟨_,hv⟩,_⟩,_⟩:=h;rcases hv with⟨rfl,_⟩|⟨g',cap,cur,rfl,h2,_⟩;simp[dR] at hg;simp only[dR,aH] at hg;omega
 |bx cs=>obtain⟨⟨g',vs,ty,rfl,h2,_⟩,_⟩:=h;simp only[dR,aH] at hg;omega
 |mp ks vs=>obtain⟨⟨g',es,c,rfl,h2,_⟩,_⟩:=h;simp only[dR,aH] at hg;omega
 |_=>simp[V.isOwn] at ho
def FI.put_res (hF:FI P nt keep S aD w0 aA a w){d:Option Nat}(eN:∀d',d=some d'->d'∈keep/\d'<nt){w1:World}(hb:Below w.heap.size w w1){Im mK:Nat->Prop}(cE:∀b,S b->Im b)(bK:∀b,Im b->(S b\/aD<=b)/\b<w.heap.size)(hE:d8 P Im w aD aA (tm a))
  (h1:∀b,Im b->mK b)(h2:∀b,mK b->(Im b\/w.heap.size<=b)/\b<w1.heap.size){v:Value}{y:V}(hr:mJ P mK w1 w.heap.size v y):FI P nt keep S aD w0 (rC d y aA) (a.put d v) w1:=by
 cases d with
 |none=>exact hF.grow hb
 |some d=>
  obtain⟨hk,hd⟩:=eN d rfl;have lN:d<a.tmps.size:=by rw[hF.size];exact hd
  have AN:=hE.move (w':=w1) h1 (fun n c g ho=>by
   have:=cO.lt hE ho;intro hg;rcases(h2 g hg).1 with h|h;exact this.2.2 h;omega) (fun b fD=>hb.block b fD) (fun b h=>(bK b h).2)
  have jQ:y.names=none:=by cases y<;>first |rfl|exact hr.elim
  have cA:∀c g,cO (put' d y aA) (tm (a.put (some d) v)) d c g->w.heap.size<=g:=by
   intro c g ho;cases c with
   |none=>
    obtain⟨z,u,hz,hzo,hT,hg⟩:=ho;rw[gJ hF.srt,aY rfl] at hz;cases hz;rw[jF lN,aY rfl] at hT;cases hT;have iI:fL P mK w1 w.heap.size v y:=by cases y<;>first |exact hr|(simp[V.isOwn] at hzo;done)
    exact fL.fresh iI hzo hg
   |some j=>
    obtain⟨ys,us,z,u,hz,hT,hy,hzo,hu,hg⟩:=ho;rw[gJ hF.srt,aY rfl] at hz;cases hz;rw[jF lN,aY rfl] at hT;cases hT;obtain⟨us',he,hl,hh,_⟩:=hr;have:us=us':=by simpa using he
    subst this;exact fL.fresh (hh j u z hu hy) hzo hg
  have FV:∀c c' g,cO (put' d y aA) (tm (a.put (some d) v)) d c g->cO (put' d y aA) (tm (a.put (some d) v)) d c' g->c=c':=by
   intro c c' g ho oC;cases c with
   |none=>cases c' with|none=>rfl|some j=>obtain⟨z,u,hz,hzo,_⟩:=ho;obtain⟨ys,us,z',u',gC,_⟩:=oC;rw[hz] at gC;cases gC;simp[V.isOwn] at hzo
   |some i=>
    cases c' with
    |none=>obtain⟨z,u,hz,hzo,_⟩:=oC;obtain⟨ys,us,z',u',gC,_⟩:=ho;rw[hz] at gC;cases gC;simp[V.isOwn] at hzo
    |some j=>
     obtain⟨ys,us,z,u,hz,hT,hy,hzo,hu,hg⟩:=ho;obtain⟨ys',us',z',u',gC,hT',eS,hzo',cP,jR⟩:=oC;rw[hz] at gC;cases gC;have:=hT.symm.trans hT';have:us=us':=by simpa using this
     subst this;rw[gJ hF.srt,aY rfl] at hz;cases hz;rw[jF lN,aY rfl] at hT;cases hT;obtain⟨us',he,hl,hh,hap⟩:=hr;have:us=us':=by simpa using he
     subst this;by_cases pY:i=j;rw[pY];exact absurd jR (hap i j u u' z z' g pY hu cP hy eS hzo hzo' hg)
  refine⟨hF.srt.put' _ _,by simpa[Act.put] using hF.size,hF.defers,hF.below.trans (hb.mono hF.bsz),(fun b nT=>(hb.block b (bK b (cE b nT)).2).trans (hF.kept b nT)),fG hF.bsz hb.size,fun n z hz=> ?_,mK,fun b fD=>h1 b (cE b fD),fun b fD=> ?_,?_⟩;by_cases hn:n=d;subst hn;exact⟨hk,hd⟩;have hz:aF n (put' d y aA)=some z:=hz;rw[gJ hF.srt,aK hn] at hz;cases hq:aF d aA with|none=>rw[hq] at hz;exact hF.keys n z hz|some z'=>rw[hq] at hz;simp only at hz;cases kC:aF n aA with|none=>rw[kC] at hz;cases hz|some y'=>exact hF.keys n y' kC
  refine⟨?_,(h2 b fD).2⟩;rcases(h2 b fD).1 with h|h;exact(bK b h).1;exact .inr (fG hF.bsz h)
  ·refine AN.put hF.srt d y v ((jF lN d).trans (aY rfl)) (fun m z hm _=>(jF lN m).trans (aK hm)) ?_ (fun m hm=>by rw[jQ] at hm;cases hm) (fun c g ho n' c' _ oC=> ?_) FV
   ·by_cases kM:y.smp=true
    ·rw[fT.res1 kM];have iI:fL P mK w1 w.heap.size v y:=by cases y<;>first |exact hr|(simp[V.smp] at kM;done)
     exact fL.lower iI hF.bsz
    cases y with
    |t ys=>obtain⟨us,rfl,hl,hh,_⟩:=hr;exact⟨us,rfl,hl,fun j u z hu hz=> .inr (fL.lower (hh j u z hu hz) hF.bsz)⟩
    |al n=>exact hr.elim|pe a b c d=>exact hr.elim|pb a b c=>exact hr.elim|ud=>exact hr.elim|_=>exact absurd rfl kM
   have h3:=cA c g ho;have h5:=(cO.lt hE oC).1;omega
def fL.of_flat {S' Im:Nat->Prop}{B:Nat}{v:Value}{y:V}(h:fL P S' w B v y)(hf:y.flat=true)(hS:∀b,Im b->S' b):fL P Im w B v y:=by
 cases y with
 |ow e es=>obtain⟨⟨vs,hv,hk,hc,hr⟩,hn⟩:=h;refine⟨⟨vs,hv,hk,hc,hr.1,fun j u x hu hx=>(hr.2 j u x hu hx).of_flat ?_⟩,fun g hg hI=>hn g hg (hS g hI)⟩;simp only[V.flat] at hf;obtain⟨e',uD,lX⟩:=sM.1 (k6 hx);have h1:=(V.flats_iff es).1 hf e' uD;cases e' with|a cs=>simp only[V.flat] at h1;exact(V.flats_iff cs).1 h1 x lX|_=>simp only[V.cells,uQ] at lX;subst lX;exact h1
 |bx cs=>simp[V.flat] at hf|mp ks vs=>simp[V.flat] at hf|al n=>exact h|pe a b c d=>exact h|pb a b c=>exact h|t ys=>exact h|ud=>exact h|_=>exact aP.of_flat h hf
def mJ.eq1 {Im:Nat->Prop}{B:Nat}{v:Value}{y:V}(hy:∀ys,y≠ .t ys):mJ P Im w B v y=fL P Im w B v y:=by cases y<;>first |rfl|exact absurd rfl (hy _)
def mJ.of_flat {S' Im:Nat->Prop}{B:Nat}{v:Value}{y:V}(h:mJ P S' w B v y)(hf:y.flat=true)(hS:∀b,Im b->S' b):mJ P Im w B v y:=by
 cases y with
 |t ys=>obtain⟨us,hu,hl,hh,ha⟩:=h;refine⟨us,hu,hl,fun j u z hu hz=>fL.of_flat (hh j u z hu hz) ?_ hS,ha⟩;simp only[V.flat] at hf;exact(V.flats_iff ys).1 hf z (k6 hz)
 |_=>rw[mJ.eq1 (by simp)] at h⊢;exact fL.of_flat h hf hS
def bA4 (ho:eL P o)(hF:FI P nt keep S aD w0 aA a w){d:Option Nat}(eN:∀d',d=some d'->d'∈keep/\d'<nt){oper:Oper}{xs:List Operand}{ss:List bF}(hs:srcs xs=some ss){vs:List V}(jP:eC aA ss=some vs){r:V}
  (Rc:∀S:Nat->Prop,aX S w (xs.map a.eval) vs->∃f us zs,o f zs=some r/\aX S w us zs/\(execOp a.eval oper).run P w= .ok (.enter f us.toArray) w):
  f8 P ((execOp a.eval oper).run P w) fun u w1=>FI P nt keep S aD w0 (rC d r (if r.flat then aA else freeze aA ss)) (a.put d u) w1:=by
 by_cases hf:r.flat=true;obtain⟨f,us,zs,hz,hr,bY⟩:=Rc (dS w) (Us hF hs jP);rw[bY];refine((ho.2 f zs r hz).2 (dS w) w us (fun _ h=>h) (let ⟨_,_,h2,hE⟩:=hF.ents;hE.glob.move (fun b h=>(h2 b h).2) fun _ _=>rfl) hr).mono fun e w1 ⟨v,he,hb,S',zJ,qR,eA⟩=>⟨v,he,?_⟩;obtain⟨Im,cE,bK,hE⟩:=hF.ents;rw[aY hf];refine hF.put_res eN hb cE bK hE (fun _ h=>h) (fun b h=>⟨.inl h,vU (bK b h).2 hb.size⟩) (eA.of_flat hf fun b h=>zJ b (bK b h).2);have dI:=hF.freeze ss;obtain⟨Im,cE,bK,hE⟩:=dI.ents;obtain⟨f,us,zs,hz,hr,bY⟩:=Rc Im (Ga hE hs (IN ss aA).2 (by rw[Jz];exact jP));rw[bY];refine((ho.2 f zs r hz).2 Im w us (fun b h=>(bK b h).2) hE.glob hr).mono fun e w1 ⟨v,he,hb,S',zJ,qR,eA⟩=>⟨v,he,?_⟩;rw[aK hf];exact dI.put_res eN hb cE bK hE zJ qR eA
end
end Go.VM
namespace Go.VM
open Go.RowKit
variable [cB]
section
variable {P:Program} {nt:Nat} {keep:List Nat} {S:Nat->Prop} {aD:Nat} {w0:World} {aA aN:aG} {a:Act} {w:World} {o:aU}
def eZ3 (w:World)(e:TypeId)(s:ByteArray):Below w.heap.size w (Lib.bytesWorld w e s):=
 ⟨by simp[Lib.bytesWorld,World.freeze,World.alloc,World.drew,-World.alloc_eq,-World.drew_eq],by simp[Lib.bytesWorld,World.freeze,World.alloc,World.drew,-World.alloc_eq,-World.drew_eq],by simp[Lib.bytesWorld,World.freeze,World.alloc,World.drew,-World.alloc_eq,-World.drew_eq],by rw[Lib.bytesWorld_size];omega,fun i hi=>Lib.bytesWorld_at_old w e s i hi⟩
def cZ5 (hF:FI P nt keep S aD w0 aA a w){d:Nat}(hk:d∈keep)(hd:d<nt){t u e:TypeId}{x:Operand}{s:bF}{oper:Oper}(aO:oper.op= .convert t u x)(ht:P.underlying t=some .string)(hu:P.underlying u=some (.slice e))(he:P.underlying e=some (.int .u8))
  (hs:cS x=some s)(aC:bS o aA (.s2b d e s)=some aN):∃v w1,(execOp a.eval oper).run P w= .ok (.value v) w1/\FI P nt keep S aD w0 aN (a.put (some d) v) w1:=by
 simp only[bS] at aC;cases hl:dK aA s with
 |none=>rw[hl] at aC;cases aC
 |some v=>
  rw[hl] at aC;simp only[aZ] at aC;cases v<;>first |(cases aC;done)|skip
  rename_i xs;simp only[aH] at aC;subst aC;have hr:=En hF hs hl;obtain⟨b,hb,hbx⟩:∃b:ByteArray,a.eval x= .string b/\b.data.toList=xs:=by generalize a.eval x=y at hr;cases hr with|s b=>exact⟨b,rfl,rfl⟩
  subst hbx;have bY:(execOp a.eval oper).run P w= .ok (.value (.slice (some ⟨w.heap.size,0,none⟩) b.size (grownCap w b.size 0 e))) (Lib.bytesWorld w e b):=by have:=Lib.run_convert_string_bytes w t u e b ht hu he;simp only[execOp,aO,hb,dX,this,dQ,eU]
  refine⟨_,_,bY,hF.put_rep hk hd (eZ3 w e b) rfl rfl fun Im h1 h2 hE=> ?_⟩;refine⟨fun k=>Im k\/k=w.heap.size,fun _ h=> .inl h,fun k hk=> ?_,?_⟩;rw[Lib.bytesWorld_size];rcases hk with hk|rfl;exact⟨.inl hk,by have:=(h2 k hk).2;omega⟩;exact⟨.inr (dD _),by omega⟩;have bT:(b.data.toList.map fun c=>V.i .u8 (c.toNat:Int)).length=b.size:=by rw[uP];rfl
  rw[<-bT];have fC:∀l:List UInt8,cL (l.map fun c=>V.i .u8 (c.toNat:Int))=l.map fun c=>V.i .u8 (c.toNat:Int):=by intro l;induction l with|nil=>rfl|cons c l ih=>rw[fF,tC,ih];rfl
  refine aP.mk_slice (k:=1) (fun y hy=> ?_) ?_ (vs:=b.data.toList.map fun c=>Value.int .u8 (c.toNat:Int)) ?_ ?_ (.inr ⟨_,rfl,.inr rfl,fun j u hj=> ?_⟩);obtain⟨c,_,rfl⟩:=jL.1 hy;rfl;rw[fC];intro y hy;obtain⟨c,_,rfl⟩:=jL.1 hy;rfl;rw[fC];refine⟨by simp,fun j u y hu hy=> ?_⟩;rw[kG] at hu hy;cases hc:b.data.toList[j]? with|none=>rw[hc] at hu;cases hu|some c=>rw[hc] at hu hy;simp only[eB,aH] at hu hy;subst hu;subst hy;exact .i _ _
  rw[bT];exact grownCap_ge _ _ _ _;rw[kG] at hj;cases hc:b.data.toList[j]? with
  |none=>rw[hc] at hj;cases hj
  |some c=>
   rw[hc] at hj;simp only[eB,aH] at hj;subst hj;have pE:j<b.size:=by exact(fE.1 hc).1
   have:=Lib.bytesWorld_cell w e b j pE;rw[EX,hc] at this;have hadd:(⟨w.heap.size,0,none⟩:Addr).add j=⟨w.heap.size,j,none⟩:=by unfold Addr.add;split;rename_i h0;subst h0;rfl;simp
   rw[hadd];exact this
end
end Go.VM
namespace Go.VM
open Go.RowKit
def tY:Nat->TypeDesc
 |0=> .bool|1=> .string|_=> .int .i64
def MA {P:Program}{t:TypeId}{kt:Nat}(h:FA P t=some kt):P.underlying t=some (tY kt):=by unfold FA at h;split at h<;>cases h<;>assumption
def FB {kt:Nat}{k:V}(h:iA kt k=true):(kt=0/\∃b,k= .b b)\/(kt=1/\∃s,k= .s s)\/(kt=2/\∃n,k= .i .i64 n):=by unfold iA at h;split at h;exact .inl ⟨rfl,_,rfl⟩;exact .inr (.inl ⟨rfl,_,rfl⟩);exact .inr (.inr ⟨rfl,_,rfl⟩);cases h
def U' {kt:Nat}{k x:V}(hk:iA kt k=true)(hx:iA kt x=true):Instr.sameNow (tY kt) k.toVal x.toVal=some (rD k x):=by
 rcases FB hk with⟨rfl,a,rfl⟩|⟨rfl,a,rfl⟩|⟨rfl,a,rfl⟩
 ·rcases FB hx with⟨_,b,rfl⟩|⟨h,_⟩|⟨h,_⟩<;>first |(cases h;done)|skip
  simp[tY,V.toVal,Instr.sameNow,rD]
 ·rcases FB hx with⟨h,_⟩|⟨_,b,rfl⟩|⟨h,_⟩<;>first |(cases h;done)|skip
  have hd:((⟨a.toArray⟩:ByteArray)==⟨b.toArray⟩)=decide (a=b):=by rw[LA,decide_eq_true_iff];constructor;intro h;have h':a.toArray==b.toArray:=h;have:=jV Array.toList (eq_of_beq h');simpa using this;rintro rfl;show(a.toArray==a.toArray)=true;simp
  simp[tY,V.toVal,Instr.sameNow,rD,hd]
 ·rcases FB hx with⟨h,_⟩|⟨h,_⟩|⟨_,b,rfl⟩<;>first |(cases h;done)|skip
  simp[tY,V.toVal,Instr.sameNow,rD];rw[LA];simp
def RO {kt:Nat}{k x:V}(hk:iA kt k=true)(hx:iA kt x=true)(h:rD k x=true):k=x:=by
 rcases FB hk with⟨rfl,a,rfl⟩|⟨rfl,a,rfl⟩|⟨rfl,a,rfl⟩
 ·rcases FB hx with⟨_,b,rfl⟩|⟨h,_⟩|⟨h,_⟩<;>first |(cases h;done)|skip
  simpa[rD] using h
 ·rcases FB hx with⟨h,_⟩|⟨_,b,rfl⟩|⟨h,_⟩<;>first |(cases h;done)|skip
  simpa[rD] using h
 ·rcases FB hx with⟨h,_⟩|⟨h,_⟩|⟨_,b,rfl⟩<;>first |(cases h;done)|skip
  simpa[rD] using h
def Oq {kt:Nat}{k:V}(hk:iA kt k=true):k.uniq=true:=by rcases FB hk with⟨rfl,a,rfl⟩|⟨rfl,a,rfl⟩|⟨rfl,a,rfl⟩<;>rfl
def Ro {kt:Nat}{k:V}(hk:iA kt k=true):∀{ks vs:List V} {es:List MapEntry} (i:Nat),es.map (·.key)=ks.map V.toVal->es.map (·.val)=vs.map V.toVal->ks.all (iA kt)=true->f9 k ks vs=none->
  Instr.findNow (tY kt) k.toVal es i=some none/\mD k ks=ks++[k]/\∀v,mC k v ks vs=vs++[v]
 |[],[],[],i,_,_,_,_=>⟨rfl,rfl,fun _=>rfl⟩|x::ks,y::vs,e::es,i,h1,h2,h3,h4=>by simp only[fF,gG] at h1 h2;simp only[HX,fA] at h3;simp only[f9] at h4;split at h4;cases h4;rename_i bM;obtain⟨r1,r2,r3⟩:=Ro hk (i+1) h1.2 h2.2 h3.2 h4;have:=U' hk h3.1;simp only[Bool.not_eq_true] at bM;refine⟨?_,?_,fun v=> ?_⟩;simp only[Instr.findNow,h1.1,this,bM,r1];simp[mD,bM,r2];simp[mC,bM,r3]
 |[],y::vs,es,i,h1,h2,_,_=>by have e1:=jV List.length h1;have e2:=jV List.length h2;simp only[uP,fY,vR] at e1 e2;omega|x::ks,[],es,i,h1,h2,_,_=>by have e1:=jV List.length h1;have e2:=jV List.length h2;simp only[uP,fY,vR] at e1 e2;omega|[],[],e::es,i,h1,_,_,_=>by simp at h1|x::ks,y::vs,[],i,h1,_,_,_=>by simp at h1
def PI {kt:Nat}{k:V}(hk:iA kt k=true):∀{ks vs:List V} {es:List MapEntry} (i:Nat) {r:V},es.map (·.key)=ks.map V.toVal->es.map (·.val)=vs.map V.toVal->ks.all (iA kt)=true->f9 k ks vs=some r->
  ∃j,Instr.findNow (tY kt) k.toVal es i=some (some (i+j,r.toVal))/\j<es.length/\ks[j]? =some k/\mD k ks=ks/\r∈vs/\∀v,mC k v ks vs=vs.set j v
 |[],_,_,i,r,_,_,_,h=>by simp[f9] at h|x::ks,[],_,i,r,_,_,_,h=>by simp[f9] at h|x::ks,y::vs,[],i,r,h1,_,_,_=>by simp at h1|x::ks,y::vs,e::es,i,r,h1,h2,h3,h4=>by simp only[fF,gG] at h1 h2;simp only[HX,fA] at h3;have hs:=U' hk h3.1;simp only[f9] at h4;split at h4;rename_i he;cases h4;have:=RO hk h3.1 he;subst this;refine⟨0,?_,by simp,rfl,?_,dC ..,fun v=> ?_⟩;simp only[Instr.findNow,h1.1,hs,he,h2.1,EZ];simp[mD,he];simp[mC,he];rename_i bM;obtain⟨j,r1,r2,r3,r4,r5,r6⟩:=PI hk (i+1) h1.2 h2.2 h3.2 h4;simp only[Bool.not_eq_true] at bM;refine⟨j+1,?_,by simpa using r2,by simpa using r3,?_,dL _ r5,fun v=> ?_⟩;simp only[Instr.findNow,h1.1,hs,bM,r1];congr 3;omega;simp[mD,bM,r4];simp[mC,bM,r6]
section
variable {P:Program} {w:World}
def KM {g:Nat}{es:Array MapEntry}{clock:Nat}(hg:w.heap[g]? =some (.map es clock)):(getObj g).run P w= .ok (.map es clock) w:=by simp[getObj,Sem.run,hg]
def Uy {g:Nat}{es:Array MapEntry}{clock:Nat}(o:Obj)(hg:w.heap[g]? =some (.map es clock)):(setObj g o).run P w= .ok () {w with heap:=w.heap.setIfInBounds g o}:=by simp[setObj,Sem.run,hg]
def Ir {t:TypeId}{kt:Nat}(ht:FA P t=some kt)(b:Bool){k:V}(hk:iA kt k=true):(Instr.checkKey b 10000 t k.toVal).run P w= .ok () w:=by have hu:=MA ht;unfold Instr.checkKey;simp only[dX,eE hu,dQ];rcases FB hk with⟨rfl,a,rfl⟩|⟨rfl,a,rfl⟩|⟨rfl,a,rfl⟩<;>simp[tY,V.toVal]
def dV5 {t k0 e:TypeId}{kt:Nat}(ht:P.underlying t=some (.map k0 e))(mR:FA P k0=some kt){z:V}(hz:(zeroValue e).run P w= .ok z.toVal w){g:Nat}{es:Array MapEntry}{clock:Nat}(hg:w.heap[g]? =some (.map es clock))
  {ks vs:List V}(h1:es.toList.map (·.key)=ks.map V.toVal)(h2:es.toList.map (·.val)=vs.map V.toVal){k:V}(hk:iA kt k=true)(h3:ks.all (iA kt)=true):
  (Instr.lookup t (.map (some g)) k.toVal false).run P w= .ok (((f9 k ks vs).getD z).toVal) w:=by
 have hf:(Instr.findKey k0 k.toVal es.toList).run P w= .ok ((Instr.findNow (tY kt) k.toVal es.toList 0).getD none) w:=by unfold Instr.findKey;simp only[dX,eE (MA mR),dQ];cases hm:f9 k ks vs with|none=>rw[(Ro hk 0 h1 h2 h3 hm).1];simp|some r=>obtain⟨j,hj,_⟩:=PI hk 0 h1 h2 h3 hm;rw[hj];simp
 unfold Instr.lookup;simp only[dX,eE ht,dQ,KM hg,eU,Ir mR _ hk,hf];cases hm:f9 k ks vs with|none=>rw[(Ro hk 0 h1 h2 h3 hm).1];simp[hz]|some r=>obtain⟨j,hj,_⟩:=PI hk 0 h1 h2 h3 hm;rw[hj];simp
def dV4 {t k0 e:TypeId}{kt:Nat}(ht:P.underlying t=some (.map k0 e))(mR:FA P k0=some kt){g:Nat}{es:Array MapEntry}{clock:Nat}(hg:w.heap[g]? =some (.map es clock))
  {ks vs:List V}(h1:es.toList.map (·.key)=ks.map V.toVal)(h2:es.toList.map (·.val)=vs.map V.toVal){k:V}(hk:iA kt k=true)(h3:ks.all (iA kt)=true){r:V}(hm:f9 k ks vs=some r):
  (Instr.lookup t (.map (some g)) k.toVal false).run P w= .ok r.toVal w:=by
 obtain⟨j,hj,_⟩:=PI hk 0 h1 h2 h3 hm;have hf:(Instr.findKey k0 k.toVal es.toList).run P w= .ok (some (0+j,r.toVal)) w:=by unfold Instr.findKey;simp only[dX,eE (MA mR),dQ,hj,eU]
 unfold Instr.lookup;simp only[dX,eE ht,dQ,KM hg,eU,Ir mR _ hk,hf];simp
def VG {Im:Nat->Prop}{y:V}(hu:y.uniq=true)(hc:y.cell=true):aP Im w y.toVal y:=by cases y with|b x=>exact .b x|i k n=>exact .i k n|s x=>exact .s ⟨x.toArray⟩|nf=>exact .nf|np=>exact .np|mr m=>exact .mr m|_=>first |(simp[V.cell] at hc;done)|(simp[V.uniq] at hu;done)
def bC6 {kt:Nat}{k:V}(hk:iA kt k=true):Instr.sameBits 10000 k.toVal k.toVal=true:=by rcases FB hk with⟨rfl,a,rfl⟩|⟨rfl,a,rfl⟩|⟨rfl,a,rfl⟩;simp[V.toVal,Instr.sameBits];simp only[V.toVal,Instr.sameBits];show(a.toArray==a.toArray)=true;simp;simp[V.toVal,Instr.sameBits]
def aS3 {t k0 e:TypeId}{kt:Nat}(ht:P.underlying t=some (.map k0 e))(mR:FA P k0=some kt){g:Nat}{es:Array MapEntry}{clock:Nat}(hg:w.heap[g]? =some (.map es clock))
  {ks vs:List V}(h1:es.toList.map (·.key)=ks.map V.toVal)(h2:es.toList.map (·.val)=vs.map V.toVal){k x:V}(hk:iA kt k=true)(h3:ks.all (iA kt)=true)(h7:(es.toList.map (·.born)).Nodup)(h8:∀x∈es.toList,x.born<clock):
  ∃(bW:Array MapEntry) (qT:Nat),(Instr.mapUpdate t (.map (some g)) k.toVal x.toVal).run P w= .ok () {w with heap:=w.heap.setIfInBounds g (.map bW qT)}/\
   bW.toList.map (·.key)=(mD k ks).map V.toVal/\bW.toList.map (·.val)=(mC k x ks vs).map V.toVal/\(bW.toList.map (·.born)).Nodup/\∀x∈bW.toList,x.born<qT:=by
 have hf:(Instr.findKey k0 k.toVal es.toList).run P w= .ok ((Instr.findNow (tY kt) k.toVal es.toList 0).getD none) w:=by unfold Instr.findKey;simp only[dX,eE (MA mR),dQ];cases hm:f9 k ks vs with|none=>rw[(Ro hk 0 h1 h2 h3 hm).1];simp|some r=>obtain⟨j,hj,_⟩:=PI hk 0 h1 h2 h3 hm;rw[hj];simp
 cases hm:f9 k ks vs with
 |none=>obtain⟨r1,r2,r3⟩:=Ro hk 0 h1 h2 h3 hm;refine⟨es.push {key:=k.toVal,val:=x.toVal,born:=clock},clock+1,?_,?_,?_,?_,fun y hy=> ?_⟩;unfold Instr.mapUpdate;simp only[dX,eE ht,dQ,KM hg,Ir mR _ hk,hf,r1,GQ,Uy _ hg];simp[r2,h1];simp[r3,h2];simp only[Tg,HZ,fF,oF];refine List.nodup_append.2 ⟨h7,by simp,fun a ha b hb=> ?_⟩;obtain⟨z,hz,rfl⟩:=jL.1 ha;simp only[uQ] at hb;have:=h8 z hz;omega;simp only[Tg,iC,uQ] at hy;rcases hy with hy|rfl;have:=h8 y hy;omega;exact Nat.lt_succ_self _
 |some r=>
  obtain⟨j,hj,bE,hkj,r2,_,r3⟩:=PI hk 0 h1 h2 h3 hm;rw[E0] at hj;have Ck:j<es.size:=by simpa using bE
  have pX:es[j].key=k.toVal:=by have:=jV (fun l=>l[j]?) h1;simp only[kG,hkj,eB] at this;simpa[Ck] using this
  have hbn:(es.modify j fun e=>{e with key:=k.toVal,val:=x.toVal}).toList.map (·.born)=es.toList.map (·.born):=by apply GO;intro i;simp only[kG,vQ,HV];by_cases hi:j=i;subst hi;simp[Ck];simp[hi]
  refine⟨es.modify j fun e=>{e with key:=k.toVal,val:=x.toVal},clock,?_,?_,?_,by rw[hbn];exact h7,fun y hy=> ?_⟩;unfold Instr.mapUpdate;simp only[dX,eE ht,dQ,KM hg,Ir mR _ hk,hf,hj,GQ];have:((es[j]?).map (·.key)).getD k.toVal=k.toVal:=by simp[Ck,pX]
  rw[this];simp only[Instr.keyThatStays,bC6 hk,jA,eU,dQ,Uy _ hg];rw[r2,<-h1];apply GO;intro i;simp only[kG,vQ,HV];by_cases hi:j=i;subst hi;simp[Ck,pX];simp[hi];rw[r3,QH,<-h2];apply GO;intro i;simp only[kG,vQ,HV,X5];by_cases hi:j=i;subst hi;simp[Ck];simp[hi];have eS:y.born∈es.toList.map (·.born):=by rw[<-hbn];exact jL.2 ⟨y,hy,rfl⟩
  obtain⟨z,hz,he⟩:=jL.1 eS;have:=h8 z hz;omega
end
section
variable [cB]
variable {P:Program} {nt:Nat} {keep:List Nat} {S:Nat->Prop} {aD:Nat} {w0:World} {aA aN:aG} {a:Act} {w:World} {o:aU}
def Za {n m:Nat}{ks vs:List V}(h:Al aA n=some (m,ks,vs)):aF m aA=some (.mp ks vs)/\(n=m\/aF n aA=some (.al m)):=by unfold Al at h;split at h;cases h;exact⟨by assumption,.inl rfl⟩;split at h;cases h;exact⟨by assumption,.inr (by assumption)⟩;cases h;cases h
def Z9 {Im:Nat->Prop}(hE:d8 P Im w aD aA (tm a)){n m:Nat}{ks vs:List V}(h:Al aA n=some (m,ks,vs)):
  ∃(g:Nat) (es:Array MapEntry) (clock:Nat),tm a n=some (.map (some g))/\tm a m=some (.map (some g))/\aD<=g/\w.heap[g]? =some (.map es clock)/\es.toList.map (·.key)=ks.map V.toVal/\es.toList.map (·.val)=vs.map V.toVal/\(∀x∈ks,x.uniq=true)/\(∀x∈vs,x.uniq=true)/\¬Im g/\(es.toList.map (·.born)).Nodup/\∀x∈es.toList,x.born<clock:=by
 obtain⟨hm,hn⟩:=Za h;obtain⟨u,hu,⟨⟨g,es,clock,rfl,h1,h2,h3,h4,h5,h6,h7,h8⟩,dP⟩⟩:=hE.ent m _ hm;rcases hn with rfl|hn;exact⟨g,es,clock,hu,hu,h1,h2,h3,h4,h5,h6,dP g rfl,h7,h8⟩;obtain⟨u',cP,he⟩:=hE.ent n _ hn;have he:tm a m=some u':=he;rw[hu] at he;cases he;exact⟨g,es,clock,cP,hu,h1,h2,h3,h4,h5,h6,dP g rfl,h7,h8⟩
def dA0 (hF:FI P nt keep S aD w0 aA a w){d:Nat}(hk:d∈keep)(hd:d<nt){t:TypeId}{oper:Oper}(aO:oper.op= .makeMap t none)
  (aC:bS o aA (.mkm d)=some aN):∃u w1,(execOp a.eval oper).run P w= .ok (.value u) w1/\FI P nt keep S aD w0 aN (a.put (some d) u) w1:=by
 simp only[bS,aH] at aC;subst aC;have A':Below w.heap.size w (w.alloc (.map #[] 0)):=(cZ _ _).alloc (dD _) _;refine⟨_,_,(by simp[execOp,aO,Instr.makeMap,newObj,Sem.run]:(execOp a.eval oper).run P w= .ok (.value (.map (some w.heap.size))) (w.alloc (.map #[] 0))),hF.put_own hk hd A' rfl (fun g hg=>by simp only[dR,aH] at hg;omega) fun Im h1 h2 hE=> ?_⟩;refine⟨Im,fun _ h=>h,fun b h=>⟨.inl h,vU (h2 b h).2 A'.size⟩,⟨⟨w.heap.size,#[],0,rfl,hF.bsz,by show(w.heap.push _)[w.heap.size]? =_;simp,rfl,rfl,by simp,by simp,by simp,by simp⟩,fun g hg hI=> ?_⟩⟩;simp only[dR,aH] at hg;subst hg;exact absurd (h2 _ hI).2 (UE _)
def cE5 {t:TypeId}{z:V}(h:DW P t=some z)(hz:z.uniq=true)(w:World):(zeroValue t).run P w= .ok z.toVal w:=by unfold DW at h;cases hi:P.info? t with|none=>rw[hi] at h;cases h|some it=>rw[hi] at h;simp only[aZ] at h;cases rZ:it.zero with|none=>rw[rZ] at h;cases h|some zv=>rw[rZ] at h;simp only[aZ] at h;have:=(Jv (S:=fun _=>True) (w:=w) h).val hz;subst this;simp[zeroValue,typeInfo,hi,rZ]
def dA2 (hF:FI P nt keep S aD w0 aA a w){d:Nat}(hk:d∈keep)(hd:d<nt){t:TypeId}{kt:Nat}{e:TypeId}(ht:C7 P t=some (kt,e)){z:V}(hz:DW P e=some z){x k:Operand}{s j:bF}(hs:cS x=some s)(hj:cS k=some j){oper:Oper}(aO:oper.op= .lookup t x k false)
  (aC:bS o aA (.mget d kt z s j)=some aN):∃u,(execOp a.eval oper).run P w= .ok (.value u) w/\FI P nt keep S aD w0 aN (a.put (some d) u) w:=by
 cases s with
 |c v=>simp[bS] at aC
 |t n=>
  have Dy:=Qq hs;subst Dy;simp only[bS,bL] at aC;obtain⟨kv,hkv,⟨m,ks,vs⟩,hp,aC⟩:=aC;split at aC
  ·rename_i hc;cases aC;simp only[fA] at hc;obtain⟨⟨⟨nQ,hks⟩,dG⟩,Gt⟩:=hc;unfold C7 at ht;split at ht
   ·rename_i k0 e' hu;obtain⟨kt',mR,he⟩:=gY.1 ht;cases he;have aA4:=(En hF hj hkv).val (Oq nQ);obtain⟨Im,cE,bK,hE⟩:=hF.ents;obtain⟨g,es,clock,hn,_,_,hg,h1,h2,h3,h4,_⟩:=Z9 hE hp;have Bo:((f9 kv ks vs).getD z).uniq=true:=Gt;have bY:(Instr.lookup t (.map (some g)) kv.toVal false).run P w= .ok (((f9 kv ks vs).getD z).toVal) w:=by
     cases hm:f9 kv ks vs with
     |none=>
      have hzu:z.uniq=true:=by rw[hm] at Gt;exact Gt
      have:=dV5 hu mR (cE5 hz hzu w) hg h1 h2 nQ hks;rw[hm] at this;exact this
     |some r=>have:=dV4 hu mR hg h1 h2 nQ hks hm;exact this
    refine⟨((f9 kv ks vs).getD z).toVal,by simp only[execOp,aO,eW hn,aA4,dX,bY,dQ,eU],?_⟩;have hr:∀Im:Nat->Prop,aP Im w ((f9 kv ks vs).getD z).toVal ((f9 kv ks vs).getD z):=fun Im=>VG Gt dG;have kM:((f9 kv ks vs).getD z).smp=true/\((f9 kv ks vs).getD z).isOwn=false:=by generalize (f9 kv ks vs).getD z=y at Gt dG;cases y<;>first |exact⟨rfl,rfl⟩|(simp[V.cell] at dG;done)
    exact hF.put_rep hk hd (cZ _ _) kM.1 kM.2 fun Im _ bK _=>⟨Im,fun _ h=>h,fun b h=>⟨.inl h,(bK b h).2⟩,hr Im⟩
   cases ht
  cases aC
def FI.storeM (hF:FI P nt keep S aD w0 aA a w){m:Nat}{ks vs ks' dU:List V}(hx:aF m aA=some (.mp ks vs)){g:Nat}(hu:tm a m=some (.map (some g))){es bW:Array MapEntry}{clock qT:Nat}(hh:w.heap[g]? =some (.map es clock))
  (h1:bW.toList.map (·.key)=ks'.map V.toVal)(h2:bW.toList.map (·.val)=dU.map V.toVal)(h3:∀x∈ks',x.uniq=true)(h4:∀x∈dU,x.uniq=true)(h7:(bW.toList.map (·.born)).Nodup)(h8:∀x∈bW.toList,x.born<qT):
  FI P nt keep S aD w0 (VM.put m (.mp ks' dU) aA) a {w with heap:=w.heap.setIfInBounds g (.map bW qT)}:=by
 obtain⟨Im,cE,bK,hE⟩:=hF.ents;have bE:=cO.lt hE (n:=m) (c:=none) ⟨_,_,hx,rfl,hu,rfl⟩;have wO:∀b,b≠g->(w.heap.setIfInBounds g (.map bW qT))[b]? =w.heap[b]? :=fun b hb=>by rw[BT];simp[D2 hb]
 have gF:∀b,Im b->(w.heap.setIfInBounds g (.map bW qT))[b]? =w.heap[b]? :=fun b hb=>wO b fun e=>bE.2.2 (e▸hb);have dA:(w.heap.setIfInBounds g (.map bW qT)).size=w.heap.size:=by simp
 have pV:(w.heap.setIfInBounds g (.map bW qT))[g]? =some (.map bW qT):=by rw[BT];simp[bE.1]
 refine⟨hF.srt.put m _,hF.size,hF.defers,hF.below.trans ⟨rfl,rfl,rfl,by rw[dA];exact dD _,fun k hk=>wO k (by omega)⟩,fun b hb=>(gF b (cE b hb)).trans (hF.kept b hb),by show aD<=(w.heap.setIfInBounds g (.map bW qT)).size;rw[dA];exact hF.bsz,fun n y hy=> ?_,Im,cE,fun b hb=>by show _/\b<(w.heap.setIfInBounds g (.map bW qT)).size;rw[dA];exact bK b hb,?_⟩;rw[kZ] at hy;by_cases hn:n=m;rw[hn];exact hF.keys m _ hx;rw[aK hn] at hy;exact hF.keys n y hy;refine hE.upd hx hu rfl gF (fun n c g' hn ho=>wO g' fun e=>hn ?_) (fun bW h=>by simp[frz] at h) ⟨⟨g,bW,qT,rfl,bE.2.1,pV,h1,h2,h3,h4,h7,h8⟩,fun g' jR=>by simp only[dR,aH] at jR;subst jR;exact bE.2.2⟩ fun c g' ho=> ?_;subst e;exact(hE.apart n c m none g' ho ⟨_,_,hx,rfl,hu,rfl⟩).1;cases c with
 |none=>obtain⟨z,v,_,_,hT,jR⟩:=ho;have:=hu.symm.trans hT;cases this;exact⟨_,_,hx,rfl,hu,jR⟩
 |some j=>obtain⟨zs,_,_,_,hz,_⟩:=ho;rw[kZ,aY rfl] at hz;cases hz
def Z8 {k x:V}:∀{ks:List V},x∈mD k ks->x=k\/x∈ks
 |[],h=>by simp[mD] at h;exact .inl h|y::ks,h=>by simp only[mD] at h;split at h;exact .inr h;rcases eP.1 h with rfl|h;exact .inr (dC ..);rcases Z8 h with h|h;exact .inl h;exact .inr (dL _ h)
def ZX {k v x:V}:∀{ks vs:List V},x∈mC k v ks vs->x=v\/x∈vs
 |[],vs,h=>by
  have:mC k v [] vs=[v]:=by cases vs<;>rfl
  rw[this] at h;simp at h;exact .inl h
 |y::ks,[],h=>by simp[mC] at h;exact .inl h|y::ks,z::vs,h=>by simp only[mC] at h;split at h;rcases eP.1 h with rfl|h;exact .inl rfl;exact .inr (dL _ h);rcases eP.1 h with rfl|h;exact .inr (dC ..);rcases ZX h with h|h;exact .inl h;exact .inr (dL _ h)
def cZ8 (hF:FI P nt keep S aD w0 aA a w){t:TypeId}{kt:Nat}{e:TypeId}(ht:C7 P t=some (kt,e)){x k v:Operand}{s j l:bF}(hs:cS x=some s)(hj:cS k=some j)(hl:cS v=some l){oper:Oper}(aO:oper.op= .mapUpdate t x k v)
  (aC:bS o aA (.mset kt s j l)=some aN):∃w1,(execOp a.eval oper).run P w= .ok .skip w1/\FI P nt keep S aD w0 aN a w1:=by
 cases s with|c v=>simp[bS] at aC|t n=>have Dy:=Qq hs;subst Dy;simp only[bS,bL] at aC;obtain⟨kv,hkv,xv,hxv,⟨m,ks,vs⟩,hp,aC⟩:=aC;split at aC;rename_i hc;cases aC;simp only[fA] at hc;obtain⟨⟨⟨nQ,hks⟩,dG⟩,Gt⟩:=hc;unfold C7 at ht;split at ht;rename_i k0 e' hu;obtain⟨kt',mR,he⟩:=gY.1 ht;cases he;have aA4:=(En hF hj hkv).val (Oq nQ);have hxval:=(En hF hl hxv).val Gt;obtain⟨Im,cE,bK,hE⟩:=hF.ents;obtain⟨g,es,clock,hn,hm,_,hg,h1,h2,h3,h4,_,h7,h8⟩:=Z9 hE hp;obtain⟨bW,qT,bY,r1,r2,r3,r4⟩:=aS3 (x:=xv) hu mR hg h1 h2 nQ hks h7 h8;refine⟨_,by simp only[execOp,aO,eW hn,aA4,hxval,dX,bY,dQ,eU];rfl,?_⟩;refine hF.storeM (Za hp).1 hm hg r1 r2 (fun y hy=> ?_) (fun y hy=> ?_) r3 r4;rcases Z8 hy with rfl|h;exact Oq nQ;exact h3 y h;rcases ZX hy with rfl|h;exact Gt;exact h4 y h;cases ht;cases aC
end
end Go.VM
namespace Go.VM
open Go.RowKit
variable [cB]
section
variable {P:Program} {nt:Nat} {keep:List Nat} {S:Nat->Prop} {aD:Nat} {w0:World} {aA aN:aG} {a:Act} {w:World} {o:aU}
def bL2:∀{ss:List bF},lJ aA ss=true->∀s∈ss,CJ aA s
 |[],_,s,hs=>by cases hs|s0::r,h,s,hs=>by simp only[lJ,fA] at h;rcases eP.1 hs with rfl|hs;intro m x hm hx;have:=h.1;rw[hm] at this;cases this;exact bL2 h.2 s hs
def bF2 {a:Act}{m:Nat}{u:Value}(h:tm a m=some u):a.put (some m) u=a:=by
 have h':a.tmps[m]? =some u:=h;obtain⟨bE,he⟩:=j6.1 h';unfold Act.put;have:a.tmps.setIfInBounds m u=a.tmps:=by apply Array.ext_getElem?;intro i;rw[BT];split;rename_i e;subst e;exact h'.symm;rfl
 simp only[this]
def cB6 {Im:Nat->Prop}(hE:d8 P Im w aD aA (tm a)){m:Nat}{u:Value}(vD:tm a m=some u){e:Nat}{es:List V}(hm:aF m aA=some (.ow e es)):∀{xs:List Operand} {ss:List bF} {vs:List V},srcs xs=some ss->Ez aA ss=some vs->Ju aA m ss=true->vO P Im w aD u (xs.map a.eval) vs
 |[],ss,vs,hs,hl,_=>by simp only[srcs,aH] at hs;subst hs;simp only[Ez,aH] at hl;subst hl;exact vO.nil
 |x::xs,ss,vs,hs,hl,dP=>by
  simp only[srcs,bL,aH] at hs;obtain⟨s,h1,ss',h2,rfl⟩:=hs;simp only[Ez,bL,aH] at hl;obtain⟨v,h3,dU,h4,rfl⟩:=hl;simp only[Ju,fA,D3,ne_eq] at dP;refine vO.cons ?_ (cB6 hE vD hm h2 h4 dP.2);unfold On at h3;split at h3;rename_i hn;exact .of_rep (Dl hE h1 (fun k y hk _=>by rw[JP.1 hn] at hk;cases hk) h3)
  ·cases s with
   |c v=>cases h3
   |t n=>
    have FL:x= .tmp n:=by cases x with|tmp k=>simp only[cS,aH,bF.t.injEq] at h1;rw[h1]|const c=>simp only[cS] at h1;cases hc:pR c<;>rw[hc] at h1<;>simp at h1|func g=>simp[cS] at h1|global g=>simp only[cS] at h1;cases hc:yH g<;>rw[hc] at h1<;>simp at h1
    subst FL;have key:∀(k:Nat) (e':Nat) (bW:List V) (u':Value),aF k aA=some (.ow e' bW)->tm a k=some u'->k≠m->HT P Im w aD u u' (.ow e' bW):=by intro k e' bW u' hk cP zH;obtain⟨u'',hu'',gQ⟩:=hE.ent k _ hk;have:=cP.symm.trans hu'';cases this;refine⟨gQ.1,gQ.2,fun g hg jR=>zH ?_⟩;exact(hE.apart k none m none g ⟨_,u',hk,rfl,cP,hg⟩ ⟨_,u,hm,rfl,vD,jR⟩).1
    simp only at h3;cases hx:aF n aA with
    |none=>rw[hx] at h3;cases h3
    |some y=>
     rw[hx] at h3;obtain⟨u',cP,gQ⟩:=hE.ent n _ hx;rw[eW cP];cases y<;>first |(cases h3;done)|skip
     rename_i e' bW;cases h3;refine key n e' bW u' hx cP fun jQ=>dP.1 ?_;subst jQ;simp[owner,hx,V.names,V.isOwn]
     ·rename_i k;simp only at h3;cases hk:aF k aA with
      |none=>rw[hk] at h3;cases h3
      |some z=>
       rw[hk] at h3;cases z<;>first |(cases h3;done)|skip
       rename_i e' bW;cases h3;refine key k e' bW u' hk gQ fun zH=>dP.1 ?_;subst zH;simp[owner,hx,V.names]
def bA8:∀{n:Nat} {l:List Operand} {ss:List bF} {p:bF×List bF},Js n ss=some p->srcs l=some ss->∃x xr,l=lC n x xr/\cS x=some p.1/\srcs xr=some p.2
 |0,l,[],p,hp,_=>by cases hp|n+1,l,[],p,hp,_=>by cases hp|n,[],s::ss,p,hp,hs=>by simp[srcs] at hs|0,x::l,s::ss,p,hp,hs=>by simp only[Js,aH] at hp;subst hp;simp only[srcs,bL,aH,gG] at hs;obtain⟨s',h1,ss',h2,rfl,rfl⟩:=hs;exact⟨x,l,rfl,h1,h2⟩
 |n+1,x::l,s::ss,p,hp,hs=>by simp only[Js,gY] at hp;obtain⟨q,hq,rfl⟩:=hp;simp only[srcs,bL,aH,gG] at hs;obtain⟨s',h1,ss',h2,rfl,rfl⟩:=hs;obtain⟨x',xr,rfl,h3,h4⟩:=bA8 hq h2;exact⟨x',x::xr,rfl,h3,by simp only[srcs,h1,h4,aZ]⟩
def dA8 (ho:eL P o)(hF:FI P nt keep S aD w0 aA a w){d:Option Nat}(eN:∀d',d=some d'->d'∈keep/\d'<nt){f:Nat}{mu:T6}(hmu:cB.muts.lookup f=some mu){x:Operand}{xs:List Operand}{s:bF}{ss:List bF}(hs:cS x=some s)(eK:srcs xs=some ss){oper:Oper}
  (Rc:(execOp a.eval oper).run P w= .ok (.enter f (lC mu.pos (a.eval x) (xs.map a.eval)).toArray) w)(aC:bS o aA (.callm d f mu s ss)=some aN):
  f8 P ((execOp a.eval oper).run P w) fun u w1=>FI P nt keep S aD w0 aN (a.put d u) w1:=by
 cases s with
 |c v=>
  have vG:∃c,x= .const c/\pR c=some v\/∃cs,v= .r cs:=by
   cases x with
   |tmp k=>simp[cS] at hs|const c=>simp only[cS] at hs;cases hc:pR c with|none=>rw[hc] at hs;simp at hs|some v'=>rw[hc] at hs;simp only[eB,aH,bF.c.injEq] at hs;subst hs;exact⟨c,.inl ⟨rfl,hc⟩⟩
   |func g=>simp only[cS,aH,bF.c.injEq] at hs;subst hs;simp[bS] at aC|global g=>simp only[cS] at hs;cases hc:yH g with|none=>rw[hc] at hs;simp at hs|some v'=>rw[hc] at hs;simp only[eB,aH,bF.c.injEq] at hs;subst hs;obtain⟨cs,rfl⟩:=Rj hc;exact⟨.bool true,.inr ⟨cs,rfl⟩⟩
  obtain⟨c,⟨rfl,vG⟩|⟨cs,rfl⟩⟩:=vG
  ·cases v<;>first |(simp[bS] at aC;done)|skip
   rename_i es0;cases es0 with
   |cons _ _=>simp[bS] at aC
   |nil=>
    have hcn:c= .slice none 0 0:=by
     have dG:Eu c=some (.l []):=by
      unfold pR at vG;split at vG;rename_i cs;cases hq:Dp cs.toList with|none=>rw[hq] at vG;cases vG|some q=>rw[hq] at vG;cases vG
      exact vG
     unfold Eu at dG;split at dG<;>first |rfl|(cases dG;done)
    subst hcn;simp only[bS] at aC;cases hl:eC aA ss with
    |none=>rw[hl] at aC;cases aC
    |some vs=>
     rw[hl] at aC;simp only[aZ] at aC;split at aC;rename_i hc;obtain⟨hre,dP⟩:=hc;cases bY:mu.run [] vs with|none=>rw[bY] at aC;cases aC|some bW=>rw[bY] at aC;simp only[aZ] at aC;cases d with|none=>cases aC|some d0=>simp only[eB,aH] at aC;subst aC;obtain⟨hk,hd⟩:=eN d0 rfl;obtain⟨Im,cE,bK,hE⟩:=hF.ents;have hr:=Ga hE eK (bL2 dP) hl;have hP:=(ho.1 f mu hmu).2 [] vs bW bY Im w aD (.slice none 0 0) [] (xs.map a.eval) (fun b h=>(bK b h).2) hE.glob hF.bsz (LJ w aD mu.ty (P.cellsOf mu.ty)) (by simp) (by simp[cL]) aX.nil (fun g hg=>by cases hg) (.of_reps hr) (fun _=>rfl);rw[Rc];refine hP.mono fun ex w' ⟨r,v',dU,he,hg,dZ,Gv,gD,wS,mQ,qO⟩=>⟨r,he,?_⟩;rw[aY hre] at qO;subst qO;exact hF.grown hk hd hF.srt (fun _ _ h=>h) (fun q x j hq hj=>hE.closed q x j hq hj) cE bK hE (row:=(Value.slice none 0 0).ownBlock) (fun g hg=>by cases hg) hg dZ Gv gD wS mQ
     cases aC
  simp[bS] at aC
 |t n=>
  have FL:x= .tmp n:=by cases x with|tmp k=>simp only[cS,aH,bF.t.injEq] at hs;rw[hs]|const c=>simp only[cS] at hs;cases hc:pR c<;>rw[hc] at hs<;>simp at hs|func g=>simp[cS] at hs|global g=>simp only[cS] at hs;cases hc:yH g<;>rw[hc] at hs<;>simp at hs
  subst FL;simp only[bS] at aC;cases hl:Ez aA ss with
  |none=>rw[hl] at aC;cases aC
  |some vs=>
   rw[hl] at aC;simp only[aZ] at aC;cases how:wG aA n with
   |none=>rw[how] at aC;cases aC
   |some m=>
    rw[how] at aC;simp only[aZ] at aC;cases hm:aF m aA with
    |none=>rw[hm] at aC;cases aC
    |some q=>
     rw[hm] at aC;simp only[aZ] at aC;cases q<;>first |(cases aC;done)|skip
     rename_i e es;simp only at aC;split at aC;rename_i hc;obtain⟨rfl,hnl,dP⟩:=hc;cases bY:mu.run es vs with
     |none=>rw[bY] at aC;cases aC
     |some bW=>
      rw[bY] at aC;simp only[aZ] at aC;obtain⟨Im,cE,bK,hE⟩:=hF.ents;obtain⟨u,vD,gQ⟩:=hE.ent m _ hm;have hn:a.eval (.tmp n)=u/\∃x,aF n aA=some x/\(n=m\/x.names=some m):=by unfold wG at how;split at how;rename_i q hx;cases how;obtain⟨u',cP,uD⟩:=hE.ent n _ hx;have:=vD.symm.trans uD;cases this;exact⟨eW cP,_,hx,.inr rfl⟩;rename_i hx;cases how;exact⟨eW vD,_,hx,.inl rfl⟩;cases how
      obtain⟨hx,xn,Dy,tA⟩:=hn;obtain⟨⟨ws,nN,qM,sA,tZ⟩,oD⟩:=gQ;have hr:=cB6 hE vD hm eK hl dP;have hP:=(ho.1 f mu hmu).2 es vs bW bY Im w aD u ws (xs.map a.eval) (fun b h=>(bK b h).2) hE.glob hF.bsz nN qM sA tZ (fun g hg=>oD g (by rw[<-Gj nN];exact hg)) hr (fun h=>by rw[hnl] at h;cases h);rw[Rc,hx];have fM:cH (eH m aA):=hF.srt.filter _;have cJ:cH (cN m (eH m aA)):=fM.filter _;have hs3:cH (cN n (cN m (eH m aA))):=cJ.filter _;have Bt:∀q x,aF q (cN m (eH m aA))=some x->aF q aA=some x/\q≠m/\x.names≠some m:=by intro q x hq;rw[uH fM,f' hF.srt] at hq;by_cases pS:q=m;rw[aY pS] at hq;cases hq;rw[aK pS] at hq;cases dE:aF q aA with|none=>rw[dE] at hq;cases hq|some x'=>rw[dE] at hq;simp only[aZ] at hq;split at hq;cases hq;cases hq;exact⟨rfl,pS,‹_›⟩
      have k9:∀q x,aF q (cN n (cN m (eH m aA)))=some x->aF q aA=some x/\q≠m/\x.names≠some m/\x.names≠some n:=by intro q x hq;rw[uH cJ] at hq;cases dE:aF q (cN m (eH m aA)) with|none=>rw[dE] at hq;cases hq|some x'=>rw[dE] at hq;simp only[aZ] at hq;split at hq;cases hq;cases hq;obtain⟨h1,h2,h3⟩:=Bt q x dE;exact⟨h1,h2,h3,‹_›⟩
      have RU:∀q x,q≠m->aF q aA=some x->x.names≠some m->aF q (cN m (eH m aA))=some x:=by intro q x pS hq h1;rw[uH fM,f' hF.srt,aK pS,hq];simp only[aZ];rw[aK h1]
      have ME:∀q x,q≠m->aF q aA=some x->x.names≠some m->x.names≠some n->aF q (cN n (cN m (eH m aA)))=some x:=by intro q x pS hq h1 h2;rw[uH cJ,RU q x pS hq h1];simp only[aZ];rw[aK h2]
      have Ar:∀g,u.ownBlock=some g->aD<=g/\¬Im g/\∀n' c,¬cO (cN m (eH m aA)) (tm a) n' c g:=by
       intro g hg;have hbu:dR u=some g:=by rw[<-Gj nN];exact hg
       have ho:cO aA (tm a) m none g:=⟨_,u,hm,rfl,vD,hbu⟩;have bE:=cO.lt hE ho;refine⟨bE.2.1,bE.2.2,fun q c' hq=> ?_⟩;have hqo:cO aA (tm a) q c' g/\q≠m:=by
        cases c' with
        |none=>obtain⟨x,v,hx,h⟩:=hq;exact⟨⟨x,v,(Bt _ _ hx).1,h⟩,(Bt _ _ hx).2.1⟩
        |some j=>obtain⟨zs,us,x,v,hx,h⟩:=hq;exact⟨⟨zs,us,x,v,(Bt _ _ hx).1,h⟩,(Bt _ _ hx).2.1⟩
       exact hqo.2 (hE.apart _ _ _ _ _ hqo.1 ho).1
      refine hP.mono fun ex w' ⟨r,v',dU,he,hg,dZ,Gv,gD,wS,mQ,qO⟩=>⟨r,he,?_⟩;by_cases hre:mu.ret=true;rw[aY hre] at aC qO;cases d with
      |none=>cases aC
      |some d0=>
       simp only[eB,aH] at aC;subst aC qO;obtain⟨hk,hd⟩:=eN d0 rfl;refine hF.grown hk hd hs3 (fun q x h=>(k9 q x h).1) (fun q x j hq hj=> ?_) cE bK hE (row:=u.ownBlock) (fun g hg=> ?_) hg dZ Gv gD wS mQ;obtain⟨g1,g2,g3,g4⟩:=k9 q x hq;obtain⟨z,hz,jZ⟩:=hE.closed q x j g1 hj;exact⟨z,ME j z (fun e=>g3 (by rw[<-e];exact hj)) hz (by rw[jZ];simp) (by rw[jZ];simp),jZ⟩;obtain⟨h1,h2,h3⟩:=Ar g hg;refine⟨h1,h2,fun q c' hq=>h3 q c' ?_⟩;have fR:∀q x,aF q (cN n (cN m (eH m aA)))=some x->aF q (cN m (eH m aA))=some x:=fun q x h=>by obtain⟨g1,g2,g3,_⟩:=k9 q x h;exact RU q x g2 g1 g3
       cases c' with
       |none=>obtain⟨x,v,hx,h⟩:=hq;exact⟨x,v,fR _ _ hx,h⟩
       |some j=>obtain⟨zs,us,x,v,hx,h⟩:=hq;exact⟨zs,us,x,v,fR _ _ hx,h⟩
      rw[aK hre] at aC qO;obtain⟨rfl,rfl⟩:=qO;simp only[aH] at aC;subst aC;obtain⟨hk,hd⟩:=hF.keys m _ hm;have hFm:=hF.grown hk hd cJ (fun q x h=>(Bt q x h).1) (fun q x j hq hj=>by
       obtain⟨g1,g2,g3⟩:=Bt q x hq;obtain⟨z,hz,jZ⟩:=hE.closed q x j g1 hj;exact⟨z,RU j z (fun e=>g3 (by rw[<-e];exact hj)) hz (by rw[jZ];simp),jZ⟩) cE bK hE (row:=v'.ownBlock) Ar hg dZ Gv gD wS mQ
      rw[bF2 vD] at hFm;obtain⟨Im',hJ1,hJ2,AO⟩:=hFm.ents;exact hFm.put_res eN (cZ _ _) hJ1 hJ2 AO (fun _ h=>h) (fun b h=>⟨.inl h,(hJ2 b h).2⟩) (v:= .tuple #[]) (y:= .t []) ⟨[],rfl,rfl,fun j u y h=>by simp at h,fun i j u u' y y' g _ h=>by simp at h⟩
     cases aC
end
end Go.VM
namespace Go.VM
open Go.RowKit
variable [cB]
section
variable {P:Program} {nt:Nat} {keep:List Nat} {S:Nat->Prop} {aD:Nat} {w0:World} {aA aN:aG} {a:Act} {w:World} {o:aU}
omit [cB] in
def dU0 {z:Array Value}(hz:0<z.size):∀n:Nat,(madeCells z (n*z.size)).toList=(List.replicate n z.toList).flatten:=by
 intro n;have h1:(List.replicate n z.toList).flatten.length=n*z.size:=by simp
 apply GO;intro i;by_cases hi:i<n*z.size;have hl:(madeCells z (n*z.size)).toList[i]? =some z[i % z.size]! :=by rw[vQ];simp[madeCells,hi]
 rw[hl];have hm:i % z.size<z.size:=Nat.mod_lt _ hz;have hr:(List.replicate n z.toList).flatten[i]? =z.toList[i % z.size]? :=by
  clear hl h1;induction n generalizing i with
  |zero=>omega
  |succ n ih=>
   rw[X7,List.flatten_cons];by_cases hi2:i<z.size;rw[BU (by simpa using hi2),Nat.mod_eq_of_lt hi2];rw[D6 (by simpa using hi2)];have h3:i - z.toList.length=i - z.size:=by simp
   rw[h3,ih (i:=i - z.size) (by rw[CM] at hi;omega) (Nat.mod_lt _ hz)];congr 1;exact(Nat.mod_eq_sub_mod (by omega)).symm
 rw[hr,vQ,sL hm,Nc z (i % z.size) hm];rw[Tq (by rw[tJ,size_madeCells];omega),Tq (by omega)]
def cZ9 (hF:FI P nt keep S aD w0 aA a w){d:Nat}(hk:d∈keep)(hd:d<nt){t e:TypeId}{k b x:Nat}{z:V}{oper:Oper}(aO:oper.op= .makeSlice t (.tmp x) (.tmp x))
  (uC:AS P t=some k)(AL:KV P t=some b)(iR:CG P t=some e)(hz:DW P e=some z)(hc:0<k/\0<b/\z.cells.length=k/\z.cells.all V.cell=true)
  (aC:bS o aA (.mks d e b z (.t x))=some aN):∃u w1,(execOp a.eval oper).run P w= .ok (.value u) w1/\FI P nt keep S aD w0 aN (a.put (some d) u) w1:=by
 simp only[bS] at aC;cases hl:dK aA (.t x) with
 |none=>rw[hl] at aC;cases aC
 |some v=>
  rw[hl] at aC;simp only[aZ] at aC;have hr:=En hF (x:= .tmp x) (s:= .t x) rfl hl;split at aC;rename_i j;split at aC;rename_i hj;cases aC;obtain⟨c1,c2,c3,c4⟩:=hc;have hu:P.underlying t=some (.slice e):=by unfold CG at iR;split at iR;rename_i e' hu;cases iR;exact hu;cases iR
  obtain⟨it,hi,FF⟩:∃it,P.info? e=some it/\it.zero.bind pR=some z:=by unfold DW at hz;cases hi:P.info? e with|none=>rw[hi] at hz;cases hz|some it=>rw[hi] at hz;exact⟨it,rfl,hz⟩
  obtain⟨zv,rZ,hcz⟩:∃zv,it.zero=some zv/\pR zv=some z:=by cases hq:it.zero with|none=>rw[hq] at FF;cases FF|some zv=>rw[hq] at FF;exact⟨zv,rfl,FF⟩
  have dA:it.size=k:=by
   have:(P.info? e).map (·.size)=some k:=by simpa[AS,hu] using uC
   rw[hi] at this;simpa using this
  have hbt:it.bytes=b:=by
   have:(P.info? e).map (·.bytes)=some b:=by simpa[KV,hu] using AL
   rw[hi] at this;simpa using this
  have uB:P.cellsOf e=k:=by simp[Program.cellsOf,hi,dA]
  obtain⟨n,rfl⟩:∃n:Nat,j=n:=⟨j.toNat,by omega⟩;have hx:a.eval (.tmp x)= .int .i64 (n:Int):=by generalize a.eval (.tmp x)=y at hr;cases hr;rfl
  have hnb:(n:Int)<=(n:Int)*(b:Int):=by have h1:n*1<=n*b:=Nat.mul_le_mul_left n c2;have h2:((n*1:Nat):Int)<=((n*b:Nat):Int):=Int.ofNat_le.2 h1;simpa using h2
  have hmul:(b:Int)*(n:Int)=(n:Int)*(b:Int):=Int.mul_comm _ _;have bY:=run_make (P:=P) w t e it zv hu hi rZ .i64 .i64 (n:Int) (n:Int) (by omega) (Int.le_refl _) (by rw[hbt,hmul];omega) (by omega);simp only[LD] at bY;rw[dA] at bY;have hrepz:aX (fun _=>True) w zv.cells.toList z.cells:=(Jv hcz).cells;have gP:zv.cells.size=k:=by have:=hrepz.1;rw[tJ] at this;omega
  have mG:(execOp a.eval oper).run P w= .ok (.value (.slice (some ⟨w.heap.size,0,none⟩) n n)) (w.alloc (.cells (madeCells zv.cells (n*k)) e)):=by simp only[execOp,aO,hx,dX,bY,dQ,eU]
  have A':Below w.heap.size w (w.alloc (.cells (madeCells zv.cells (n*k)) e)):=(cZ _ _).alloc (dD _) _;refine⟨_,_,mG,hF.put_own hk hd A' rfl (fun g hg=>by simp only[dR,aH] at hg;omega) fun Im h1 h2 hE=> ?_⟩;have yG:∀y∈List.replicate (n:Int).toNat z,y.cells.length=P.cellsOf e:=fun y hy=>by rw[(List.mem_replicate.1 hy).2,c3,uB]
  have PA:∀y∈cL (List.replicate (n:Int).toNat z),y.cell=true:=fun y hy=>by obtain⟨q,hq,hy⟩:=sM.1 hy;rw[(List.mem_replicate.1 hq).2] at hy;exact eM.1 c4 y hy
  refine⟨Im,fun _ h=>h,fun b h=>⟨.inl h,vU (h2 b h).2 A'.size⟩,⟨(madeCells zv.cells (n*k)).toList,?_,yG,PA,?_⟩,fun g hg hI=> ?_⟩;have nP:=World.ownsRow_lit (base:=aD) (e:=e) (size:=P.cellsOf e) w (madeCells zv.cells (n*k)) n hF.bsz (by simp only[maxLen];omega) (by rw[size_madeCells,uB]);simpa using nP;have hmf:(madeCells zv.cells (n*k)).toList=(List.replicate n zv.cells.toList).flatten:=by have:=dU0 (z:=zv.cells) (by omega) n;rwa[gP] at this
  rw[hmf,LD];have hrep1:aX Im (w.alloc (.cells (madeCells zv.cells (n*k)) e)) zv.cells.toList z.cells:=(Jv hcz).cells;clear hmf yG PA bY mG A' hnb hmul hj hx hr hl;generalize (w.alloc (.cells (madeCells zv.cells (n*k)) e))=w2 at hrep1⊢;induction n with|zero=>exact aX.nil|succ n ih=>rw[X7,X7,List.flatten_cons,tC];exact aX.append hrep1 (ih)
  simp only[dR,aH] at hg;subst hg;exact absurd (h2 _ hI).2 (UE _);cases aC;cases aC
end
end Go.VM
namespace Go.VM
open Go.RowKit
variable [cB]
section
variable {P:Program} {nt:Nat} {keep:List Nat} {S:Nat->Prop} {aD:Nat} {w0:World} {aA aN:aG} {a:Act} {w:World} {o:aU}
def eT9 (w:World)(dT sT ty elem:TypeId)(g dLen dCap k:Nat)(ad:Option Addr)(sLen sCap:Nat)(cur:Array Value)(t:TypeId)(cs:List Value)
  (hu:P.underlying dT=some (.slice elem))(hs:(P.info? elem).map (·.size)=some k)
  (hg:w.heap[g]? =some (.cells cur t (0,0)))(hn:cs.length=Nat.min sLen dLen*k)
  (qN:cs=[]\/∃a0,ad=some a0/\∀j v,cs[j]? =some v->w.cell? (a0.add j)=some v)(h0:ad=none->sLen=0)(Az:cs.length<=cur.size)(h1:∀v∈cs,v.oneCell'=true):
  (Builtin.copy_ #[dT,sT] ty #[.slice (some ⟨g,0,none⟩) dLen dCap,.slice ad sLen sCap]).run P w=
   .ok (goInt (Nat.min sLen dLen)) (w.setRow g (cs++cur.toList.drop cs.length).toArray):=by
 have aC:=UJ P g 0 t cs 0 cur w hg (by simpa using Az) h1;cases hq:P.info? elem with
 |none=>simp[hq] at hs
 |some i=>
  have hi:i.size=k:=by simpa[hq] using hs
  cases ad with
  |none=>have Dz:=h0 rfl;subst Dz;have Bz:cs=[]:=pL (by rw[hn];simp);subst Bz;simp[Builtin.copy_,eE hu,Builtin.lenOf,Builtin.firstCells,sizeOf,typeInfo,hq] at aC⊢;rw[aC];rfl
  |some a0=>
   have hl:=Nd (P:=P) w a0 cs (fun j v hj=>by
    rcases qN with rfl|⟨a1,he,hh⟩;simp at hj;cases he;exact hh j v hj)
   simp[Builtin.copy_,eE hu,Builtin.lenOf,Builtin.firstCells,sizeOf,typeInfo,hq,hi,<-hn,hl] at aC⊢;rw[aC];rfl
def dA7 (hF:FI P nt keep S aD w0 aA a w){d:Option Nat}(eN:∀d',d=some d'->d'∈keep/\d'<nt){dT sT:TypeId}{x y:Operand}{e k n:Nat}{sy:bF}{oper:Oper}(aO:oper.op= .call {callee:= .builtin .copy,args:= #[x,y],argTypes:= #[dT,sT]})
  (hu:P.underlying dT=some (.slice e))(hi:(P.info? e).isSome=true)(hk:P.cellsOf e=k)(hs:cS x=some (.t n))(hsy:cS y=some sy)(aC:bS o aA (.cpy d e k (.t n) sy)=some aN):
  ∃u w1,(execOp a.eval oper).run P w= .ok (.value u) w1/\FI P nt keep S aD w0 aN (a.put d u) w1:=by
 have FL:=Qq hs;subst FL;simp only[bS] at aC;cases hl:dK aA sy with|none=>rw[hl] at aC;cases aC|some yv=>
 rw[hl] at aC;simp only[aZ] at aC;cases how:wG aA n with|none=>rw[how] at aC;cases aC|some m=>
 rw[how] at aC;simp only[aZ] at aC;cases hm:aF m aA with|none=>rw[hm] at aC;cases aC|some q=>
 rw[hm] at aC;simp only[aZ] at aC;split at aC;rename_i ys e' es;split at aC;rename_i hc;cases aC;obtain⟨rfl,lE,hkp,eG⟩:=hc;have yG:∀x∈ys,x.cells.length=k:=fun x hx=>by simpa using eM.1 eG x hx
 obtain⟨Im,cE,bK,hE⟩:=hF.ents;obtain⟨ad,c,news,hye,hyr,hyc,RS⟩:=bL7 hE hsy hl;obtain⟨u,vD,gQ⟩:=hE.ent m _ hm;have hx:a.eval (.tmp n)=u:=by unfold wG at how;split at how;rename_i q hx;cases how;obtain⟨u',cP,uD⟩:=hE.ent n _ hx;have:=vD.symm.trans uD;cases this;exact eW cP;rename_i hx;cases how;exact eW vD;cases how
 obtain⟨⟨ws,nN,qM,sA,tZ⟩,oD⟩:=gQ;rw[hk] at nN qM;have hbu:=Gj nN;have hvo':=nN;obtain⟨hwl,hvd⟩:=nN;rcases hvd with⟨rfl,h0⟩|⟨g,cap,cur,rfl,sF,hg,rF,tB,lG,Br⟩;omega;have hnl:news.length=ys.length*k:=by rw[hyr.1,Vn yG]
 have lF:=hyr.oneCell hyc;have cK:(news.take (es.length*k)).length=Nat.min ys.length es.length*k:=by rw[gO,hnl];show min (es.length*k) (ys.length*k)=min ys.length es.length*k;rcases Nat.le_total ys.length es.length with h|h;rw[Nat.min_eq_right (yR _ h),Na h];rw[Na (yR _ h),Nat.min_eq_right h]
 have wP:(news.take (es.length*k)).length<=es.length*k:=by rw[gO];exact Nat.min_le_left _ _
 have I3:es.length*k<=cur.size:=by rw[lG];exact yR _ rF
 obtain⟨ti,Cf⟩:=E1.1 hi;have bY:=eT9 (P:=P) w dT sT oper.type e' g es.length cap k ad ys.length c cur e' (news.take (es.length*k)) hu (by rw[Cf];simp[<-hk,Program.cellsOf,Cf]) hg cK (by
   rcases RS with rfl|⟨a0,h1,h2⟩;left;exact pL (by rw[cK];simp);right;exact⟨a0,h1,fun j v hj=>h2 j v (by
    rw[qE] at hj;split at hj;exact hj;cases hj)⟩) (fun h=>by
   rcases RS with rfl|⟨a0,h1,_⟩;rfl;rw[h] at h1;cases h1) (fG wP I3) (fun v hv=>lF v (qF hv))
 refine⟨goInt (Nat.min ys.length es.length),w.setRow g (news.take (es.length*k)++cur.toList.drop (news.take (es.length*k)).length).toArray,?_,?_⟩;simp only[execOp,aO,resolve,invoke,builtin,dX,eU,dQ,List.map_toArray,fF,oF,hx,hye,bY];have yE:ws.drop (news.take (es.length*k)).length=ws.drop (ys.length*k):=by rcases Nat.le_total ys.length es.length with h|h;rw[cK,show Nat.min ys.length es.length=ys.length from Na h];rw[cK,show Nat.min ys.length es.length=es.length from Nat.min_eq_right h,EW (by omega),EW (by rw[hwl];exact yR _ h)]
 have hrr:aX Im w (news.take (es.length*k)++ws.drop (ys.length*k)) (cL (ys.take es.length++es.drop ys.length)):=by rw[BH,<-I8 es.length yG,<-KR ys.length qM];exact(hyr.take _).append (tZ.drop _)
 have Vh:(ys.take es.length++es.drop ys.length).length=es.length:=by rw[kH,gO,oW];omega
 have hnewrow:(w.setRow g (news.take (es.length*k)++cur.toList.drop (news.take (es.length*k)).length).toArray).ownsRow aD e' k (.slice (some ⟨g,0,none⟩) es.length cap) (ys.take es.length++es.drop ys.length).length (news.take (es.length*k)++ws.drop (ys.length*k)):=by rw[Vh];refine⟨?_,.inr ⟨g,cap,_,rfl,sF,yV w g cur _ e' _ hg,rF,tB,?_,?_⟩⟩;rw[<-yE,kH,oW,hwl];omega;simp only[rL,kH,oW,tJ];omega;rw[<-yE,<-Br];simp only;rw[LI,rM wP,List.drop_take]
 have hgb:w.grownBy (w.setRow g (news.take (es.length*k)++cur.toList.drop (news.take (es.length*k)).length).toArray) (some g):=
  ⟨rfl,rfl,rfl,by simp,fun b hb bM=>yW w g b _ (fun e=>bM (by rw[e]))⟩
 have fM:cH (eH m aA):=hF.srt.filter _;have cJ:cH (cN m (eH m aA)):=fM.filter _;have Bt:∀q x,aF q (cN m (eH m aA))=some x->aF q aA=some x/\q≠m/\x.names≠some m:=by intro q x hq;rw[uH fM,f' hF.srt] at hq;by_cases pS:q=m;rw[aY pS] at hq;cases hq;rw[aK pS] at hq;cases dE:aF q aA with|none=>rw[dE] at hq;cases hq|some x'=>rw[dE] at hq;simp only[aZ] at hq;split at hq;cases hq;cases hq;exact⟨rfl,pS,‹_›⟩
 have RU:∀q x,q≠m->aF q aA=some x->x.names≠some m->aF q (cN m (eH m aA))=some x:=by intro q x pS hq h1;rw[uH fM,f' hF.srt,aK pS,hq];simp only[aZ];rw[aK h1]
 have Ar:∀g',some g=some g'->aD<=g'/\¬Im g'/\∀n' c,¬cO (cN m (eH m aA)) (tm a) n' c g':=by
  intro g' jR;cases jR;have ho:cO aA (tm a) m none g:=⟨_,_,hm,rfl,vD,by rw[<-hbu];rfl⟩;have bE:=cO.lt hE ho;refine⟨bE.2.1,bE.2.2,fun q c' hq=> ?_⟩;have hqo:cO aA (tm a) q c' g/\q≠m:=by
   cases c' with
   |none=>obtain⟨x,v,hx,h⟩:=hq;exact⟨⟨x,v,(Bt _ _ hx).1,h⟩,(Bt _ _ hx).2.1⟩
   |some j=>obtain⟨zs,us,x,v,hx,h⟩:=hq;exact⟨⟨zs,us,x,v,(Bt _ _ hx).1,h⟩,(Bt _ _ hx).2.1⟩
  exact hqo.2 (hE.apart _ _ _ _ _ hqo.1 ho).1
 obtain⟨zH,hdm⟩:=hF.keys m _ hm;have hFm:=hF.grown zH hdm cJ (fun q x h=>(Bt q x h).1) (fun q x j hq hj=>by
  obtain⟨g1,g2,g3⟩:=Bt q x hq;obtain⟨z,hz,jZ⟩:=hE.closed q x j g1 hj;exact⟨z,RU j z (fun e=>g3 (by rw[<-e];exact hj)) hz (by rw[jZ];simp),jZ⟩) cE bK hE (row:=some g) Ar hgb (v':= .slice (some ⟨g,0,none⟩) es.length cap) (fun g' h=> .inl (by simpa[Value.ownBlock] using h)) (by rw[hk];exact hnewrow) (fun x hx=>by
   rw[hk];rcases iC.1 hx with h|h;exact yG x (qF h);exact qM x (qX h)) (fun x hx=>by
   rw[BH,<-I8 es.length yG,<-KR ys.length qM] at hx;rcases iC.1 hx with h|h;exact hyc x (qF h);exact sA x (qX h)) hrr
 rw[bF2 vD] at hFm;cases d with|none=>exact hFm|some d0=>obtain⟨h1,h2⟩:=eN d0 rfl;exact hFm.put_flat (S':=S) (w':=w) h1 h2 (cZ _ _) (.i _ _) rfl
 cases aC;cases aC
end
end Go.VM
