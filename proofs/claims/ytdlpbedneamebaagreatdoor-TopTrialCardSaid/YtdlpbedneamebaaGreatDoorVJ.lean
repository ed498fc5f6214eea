/-
The evaluator and its soundness: part of the proof of the last text.
-/
import Derived.Test.YtdlpbedneamebaaGreatDoorVI
import Derived.Test.YtdlpbedneamebaaGreatDoorVH
set_option linter.all false
namespace Go.VM
open Go.RowKit
variable [cB]
section
variable {aA:aG} {q:Option Nat}
@[simp] def fV9:(V.mr q).names=none:=rfl
@[simp] def gE1:frz (.mr q)= .mr q:=rfl
@[simp] def fO8:(V.mr q).isOwn=false:=rfl
@[simp] def fY8:wL aA (some (.mr q))=some (.mr q):=rfl
@[simp] def fL8:BK (.mr q)=some (.mr q):=rfl
@[simp] def gN6:V.cell (.mr q)=true:=rfl
end
end Go.VM
namespace Go.VM
open Go.RowKit
variable [cB]
section
variable {P:Program}
def cG9 {bB:List Oper}{Q:Exit->Act->World->Prop}(Inv:Array Bool->Act->World->Prop)
  (r9:∀(i:Nat) op,bB[i]? =some op->∀l:Array Bool,l.size=bB.length->¬bU l i->(∀j∈eD op,bU l j)->(∀(k:Nat) eX,bB[k]? =some eX->bU l k->∀j∈eD eX,bU l j)->∀a w,Inv l a w->
   Region.wanted op (yielded bB.toArray a.tmps)=true/\f8 P ((execOp a.eval op).run P w) fun u w1=>Inv (l.setIfInBounds i true) (a.put op.dst u) w1)
  (pG:∀(i:Nat) op,bB.toArray[i]? =some op->∀j∈eD op,j<i):
  ∀(fuel:Nat) (listed:Array Bool) (a:Act) (w:World),listed.size=bB.length->zB listed<=fuel->(∀(k:Nat) eX,bB[k]? =some eX->bU listed k->∀j∈eD eX,bU listed j)->Inv listed a w->
   (∀l a' w',(∀i,i<bB.length->bU l i)->Inv l a' w'->Q .normal a' w')->wpAny P .any bB.toArray Q fuel listed a w:=by
 intro fuel;induction fuel with
 |zero=>intro listed a w hs oP cK hF hQ;have eG:∀i,i<bB.length->bU listed i:=fun i hi=>XF (by omega) i (by omega);refine⟨?_,hQ listed a w eG hF⟩;cases hr:Region.ready .any bB.toArray listed with|nil=>rfl|cons i r=>obtain⟨op,aO,bM,_⟩:=Jy (by simpa using hs) (show i∈Region.ready .any bB.toArray listed by rw[hr];exact dC ..);exact absurd (eG i (by have:=(j6.1 aO).1;simpa using this)) bM
 |succ fuel ih=>
  intro listed a w hs oP cK hF hQ;refine⟨fun hr=>hQ listed a w (fun i hi=>VX (by simpa using hs) pG hr i (by simpa using hi)) hF,fun i hi=> ?_⟩;obtain⟨op,aO,bM,fV⟩:=Jy (by simpa using hs) hi;have kB:bB[i]? =some op:=by simpa using aO
  have iJ:i<bB.length:=(fE.1 kB).1;have his:i<listed.size:=by omega
  obtain⟨hw,dN⟩:=r9 i op kB listed hs bM fV cK a w hF;have next:∀u w1,Inv (listed.setIfInBounds i true) (a.put op.dst u) w1->wpAny P .any bB.toArray Q fuel (listed.setIfInBounds i true) (a.put op.dst u) w1:=by intro u w1 h;refine ih _ _ w1 (by simpa using hs) ?_ (fun k eX hk pF j hj=> ?_) h hQ;have:=V9 his bM;omega;refine(kP his j).2 (.inr ?_);rcases(kP his k).1 pF with rfl|h;rw[kB] at hk;cases hk;exact fV j hj;exact cK k eX hk h j hj
  unfold wpOp;rw[aO];simp only;rw[aY hw];left;refine f8.wp ?_;revert dN;generalize (execOp a.eval op).run P w=res;intro dN;unfold f8 at dN⊢;split at dN
  ·exact next _ _ dN
  ·exact next _ _ dN
  ·exact dN.mono fun e w1 ⟨u,he,h⟩=>⟨u,he,next _ _ h⟩
  exact dN.elim
def dH6 (hm:P.follows .mixedOrders=true){id:Nat}{aJ:Array Oper}(Inv:Array Bool->Act->World->Prop)
  (r9:∀(i:Nat) op,aJ.toList[i]? =some op->∀l:Array Bool,l.size=aJ.toList.length->¬bU l i->(∀j∈eD op,bU l j)->(∀(k:Nat) eX,aJ.toList[k]? =some eX->bU l k->∀j∈eD eX,bU l j)->∀a w,Inv l a w->
   Region.wanted op (yielded aJ.toList.toArray a.tmps)=true/\f8 P ((execOp a.eval op).run P w) fun u w1=>Inv (l.setIfInBounds i true) (a.put op.dst u) w1)
  (pG:((List.range aJ.size).all fun i=>match aJ[i]? with |some o=>(eD o).all fun j=>decide (j<i)|none=>false)=true){a:Act}{w:World}
  (hF:Inv (Array.replicate aJ.size false) a {w with drawn:=w.drawn+1}){Q:Exit->Act->World->Prop}(hQ:∀l a' w',(∀i,i<aJ.size->bU l i)->Inv l a' w'->Q .normal a' w'):
  (Code.region id aJ true).wp P Q a w:=by
 refine UK hm ?_;have lF:∀k,¬bU (Array.replicate aJ.size false) k:=fun k hk=>by unfold bU at hk;simp only[vP,HW] at hk;split at hk<;>simp at hk
 have oP:zB (Array.replicate aJ.size false)<=aJ.size:=by unfold zB;exact fG (Tl ..) (by simp)
 have:=cG9 (Q:=Q) (bB:=aJ.toList) Inv r9 (fun i op aO j hj=>by
   have kB:aJ[i]? =some op:=by simpa using aO
   have:=eM.1 pG i (nH.2 (j6.1 kB).1);rw[kB] at this;simpa using eM.1 this j hj) aJ.size (Array.replicate aJ.size false) a {w with drawn:=w.drawn+1} (by simp) oP
  (fun k _ _ hk=>absurd hk (lF k)) hF (fun l a' w' hl h=>hQ l a' w' (fun i hi=>hl i (by simpa using hi)) h)
 simpa using this
end
end Go.VM
namespace Go.VM
open Go.RowKit
section
variable {P:Program}
def T4 (ds:Nat->Option Nat)(val:Nat->Value)(a0:Act)(l:Array Bool)(a:Act):Prop:=
 a.tmps.size=a0.tmps.size/\a.defers=a0.defers/\(∀i n,bU l i->ds i=some n->tm a n=some (val i))/\∀n,(∀i,bU l i->ds i≠some n)->tm a n=tm a0 n
def f8.imp {r:Result Next}{K K':Value->World->Prop}(h:f8 P r K)(hK:∀u w,K u w->K' u w):f8 P r K':=by unfold f8 at*;split at h;exact hK _ _ h;exact hK _ _ h;exact h.mono fun e w' ⟨v,he,hv⟩=>⟨v,he,hK _ _ hv⟩;exact h.elim
def Yb [cB](hm:P.follows .mixedOrders=true){id:Nat}{aJ:Array Oper}{ds:Nat->Option Nat}{val:Nat->Value}{a0:Act}(Wd:Array Bool->World->Prop)
  (I0:∀i j n,ds i=some n->ds j=some n->i=j)(bE:∀i n,ds i=some n->n<a0.tmps.size)
  (hds:∀(i:Nat) op,aJ.toList[i]? =some op->op.dst=ds i/\op.guard=none)
  (aO:∀(i:Nat) op,aJ.toList[i]? =some op->∀l:Array Bool,l.size=aJ.toList.length->¬bU l i->(∀j∈eD op,bU l j)->(∀(k:Nat) eX,aJ.toList[k]? =some eX->bU l k->∀j∈eD eX,bU l j)->∀a w,T4 ds val a0 l a->Wd l w->
   f8 P ((execOp a.eval op).run P w) fun u w1=>(ds i=none\/u=val i)/\Wd (l.setIfInBounds i true) w1)
  (pG:((List.range aJ.size).all fun i=>match aJ[i]? with |some o=>(eD o).all fun j=>decide (j<i)|none=>false)=true){w:World}
  (hF:Wd (Array.replicate aJ.size false) {w with drawn:=w.drawn+1}){Q:Exit->Act->World->Prop}(hQ:∀l a' w',(∀i,i<aJ.size->bU l i)->T4 ds val a0 l a'->Wd l w'->Q .normal a' w'):
  (Code.region id aJ true).wp P Q a0 w:=by
 refine dH6 hm (fun l a w=>T4 ds val a0 l a/\Wd l w) (fun i op hi l hl bM fV cK a w ⟨hT,hW⟩=> ?_) pG ⟨⟨rfl,rfl,fun i n h=> ?_,fun n _=>rfl⟩,hF⟩ (fun l a' w' hl h=>hQ l a' w' hl h.1 h.2);obtain⟨hd,hg⟩:=hds i op hi;refine⟨by simp[Region.wanted,hg],(aO i op hi l hl bM fV cK a w hT hW).imp fun u w1 ⟨hu,hw⟩=>⟨?_,hw⟩⟩;have iJ:i<l.size:=by rw[hl];exact(fE.1 hi).1
 rw[hd];cases hdi:ds i with
 |none=>refine⟨hT.1,hT.2.1,fun k n hk hn=> ?_,fun n hn=> ?_⟩;rcases(kP iJ k).1 hk with rfl|hk;rw[hdi] at hn;cases hn;exact hT.2.2.1 k n hk hn;exact hT.2.2.2 n fun k hk=>hn k ((kP iJ k).2 (.inr hk))
 |some d=>
  have lN:d<a.tmps.size:=by rw[hT.1];exact bE i d hdi
  have hu:u=val i:=by rcases hu with h|h;rw[hdi] at h;cases h;exact h
  subst hu;refine⟨by simpa[Act.put] using hT.1,hT.2.1,fun k n hk hn=> ?_,fun n hn=> ?_⟩;rw[jF lN];rcases(kP iJ k).1 hk with rfl|hk;rw[hdi] at hn;cases hn;simp;rw[aK fun e=>by subst e;exact bM (I0 i k n hdi hn▸hk)];exact hT.2.2.1 k n hk hn;rw[jF lN,aK fun e=>hn i ((kP iJ i).2 (.inl rfl)) (by rw[hdi,e])];exact hT.2.2.2 n fun k hk=>hn k ((kP iJ k).2 (.inr hk))
 unfold bU at h;simp only[vP,HW] at h;split at h<;>simp at h
def T4.all [cB]{ds:Nat->Option Nat}{val:Nat->Value}{a0:Act}{l:Array Bool}{a:Act}(h:T4 ds val a0 l a){n:Nat}(hl:∀i,i<n->bU l i)(hn:∀i,n<=i->ds i=none)(I0:∀i j n,ds i=some n->ds j=some n->i=j)(bE:∀i n,ds i=some n->n<a0.tmps.size):
  a=(List.range n).foldl (fun a i=>a.put (ds i) (val i)) a0:=by
 have key:∀m,m<=n->∃b:Act,b=(List.range m).foldl (fun a i=>a.put (ds i) (val i)) a0/\b.tmps.size=a0.tmps.size/\b.defers=a0.defers/\(∀i k,i<m->ds i=some k->tm b k=some (val i))/\∀k,(∀i,i<m->ds i≠some k)->tm b k=tm a0 k:=by
  intro m;induction m with
  |zero=>exact fun _=>⟨_,rfl,rfl,rfl,fun i k hi=>by omega,fun _ _=>rfl⟩
  |succ m ih=>
   intro hm;obtain⟨b,hb,b1,b2,b3,b4⟩:=ih (by omega);refine⟨b.put (ds m) (val m),by rw[List.range_succ,JL,<-hb];rfl,?_,?_,fun i k hi hk=> ?_,fun k hk=> ?_⟩;cases ds m<;>simpa[Act.put] using b1;cases ds m<;>exact b2;cases hd:ds m with|none=>by_cases him:i=m;subst him;rw[hd] at hk;cases hk;exact b3 i k (by omega) hk|some d=>rw[jF (by rw[b1];exact bE m d hd)];by_cases him:i=m;subst him;rw[hd] at hk;cases hk;simp;rw[aK fun e=>him (I0 i m k hk (by rw[hd,e]))];exact b3 i k (by omega) hk
   cases hd:ds m with|none=>exact b4 k fun i hi=>hk i (by omega)|some d=>rw[jF (by rw[b1];exact bE m d hd),aK fun e=>hk m (by omega) (by rw[hd,e])];exact b4 k fun i hi=>hk i (by omega)
 obtain⟨b,hb,b1,b2,b3,b4⟩:=key n (dD _);rw[<-hb];have ht:a.tmps=b.tmps:=by
  apply Array.ext (by rw[h.1,b1]);intro k nQ iY;have kD:tm a k=tm b k:=by
   by_cases mG:∃i,i<n/\ds i=some k;obtain⟨i,hi,hd⟩:=mG;rw[h.2.2.1 i k (hl i hi) hd,b3 i k hi hd];have sC:∀i,ds i=some k->i<n:=fun i hd=>by rcases JN i n with h1|h1;exact h1;rw[hn i h1] at hd;cases hd
   rw[h.2.2.2 k fun i _ hd=>mG ⟨i,sC i hd,hd⟩,b4 k fun i hi hd=>mG ⟨i,hi,hd⟩]
  unfold tm at kD;rw[sL nQ,sL iY] at kD;exact uR kD
 have hd:a.defers=b.defers:=h.2.1.trans b2.symm;cases a;cases b;simp only at ht hd;rw[ht,hd]
end
end Go.VM
