/-
The evaluator and its soundness: part of the proof of the last text.
-/
import Derived.Test.YtdlpbedneamebaaGreatDoorVE
import Derived.Test.YtdlpbedneamebaaGreatDoorVB
set_option linter.all false
namespace Go.VM
open Go.RowKit
variable [cB]
def bH {α:Type}(F:aU->Option α):Prop:=∀o v,F o=some v->∃L:List (Nat×List V×V),(∀p∈L,o p.1 p.2.1=some p.2.2)/\∀o':aU,(∀p∈L,o' p.1 p.2.1=some p.2.2)->F o'=some v
def bH.const {α:Type}(x:Option α):bH fun _=>x:=fun _ _ h=>⟨[],by simp,fun _ _=>h⟩
def bH.ask (f:Nat)(xs:List V):bH fun o=>o f xs:=fun _ y h=>⟨[(f,xs,y)],by simpa using h,fun o' h'=>h' (f,xs,y) (by simp)⟩
def bH.bind {α β:Type}{F:aU->Option α}{G:α->aU->Option β}(hF:bH F)(hG:∀a,bH (G a)):bH fun o=>(F o).bind fun a=>G a o:=by intro o v h;simp only[bL] at h;obtain⟨a,ha,hg⟩:=h;obtain⟨L1,h1,h2⟩:=hF o a ha;obtain⟨L2,h3,h4⟩:=hG a o v hg;refine⟨L1++L2,fun p hp=> ?_,fun o' h'=> ?_⟩;rcases iC.1 hp with hp|hp;exact h1 p hp;exact h3 p hp;simp only[h2 o' fun p hp=>h' p (oG _ hp),aZ];exact h4 o' fun p hp=>h' p (rK _ hp)
def bH.congr {α:Type}{F G:aU->Option α}(hF:bH F)(h:∀o,G o=F o):bH G:=by have:G=F:=funext h;rw[this];exact hF
def bH.mono {α:Type}{F:aU->Option α}(hF:bH F){o o':aU}(h:∀f xs y,o f xs=some y->o' f xs=some y){v:α}(hv:F o=some v):F o'=some v:=by obtain⟨L,h1,h2⟩:=hF o v hv;exact h2 o' fun p hp=>h _ _ _ (h1 p hp)
def Yu (vs:List V):bH fun o=>AX o vs:=by unfold AX;split;exact bH.ask _ _;exact bH.const _
def dM6 (o:aU)(p:jU)(vs:List V)(h1:∀fl f,p≠ .call fl f)(h2:∀fl,p≠ .callv fl):aS o p vs=aS o0 p vs:=by
 cases p<;>first
  |exact absurd rfl (h1 _ _)
  |exact absurd rfl (h2 _)
  |(match vs with
   |[]=>rfl|[x]=>cases x<;>rfl|[x,y]=>cases x<;>cases y<;>rfl
   |x::y::_::_=>cases x<;>first |rfl|(cases y<;>rfl))
def Ys (p:jU)(vs:List V):bH fun o=>aS o p vs:=by by_cases h1:∃fl f,p= .call fl f;obtain⟨fl,f,rfl⟩:=h1;exact bH.congr (bH.bind (bH.ask f vs) fun r=>bH.const (if fl=true->r.uniq=true then some (frzt r) else none)) fun o=>dN0 o fl f vs;by_cases h2:∃fl,p= .callv fl;obtain⟨fl,rfl⟩:=h2;exact bH.congr (bH.bind (Yu vs) fun r=>bH.const (if fl=true->r.uniq=true then some (frzt r) else none)) fun o=>dM9 o fl vs;exact bH.congr (bH.const (aS o0 p vs)) fun o=>dM6 o p vs (fun fl f e=>h1 ⟨fl,f,e⟩) (fun fl e=>h2 ⟨fl,e⟩)
mutual
def O1 (aA:aG):∀x:X,bH fun o=>dJ o aA x
 | .sl n=>by simp only[dJ];exact bH.const _| .k v=>by simp only[dJ];exact bH.const _
 | .ite c a b=>by
  simp only[dJ];refine bH.bind (O1 aA c) fun v=> ?_;cases v with
  |b t=>cases t with|true=>exact O1 aA a|false=>exact O1 aA b
  |_=>exact bH.const _
 | .op p xs=>by simp only[dJ];exact bH.bind (bG2 aA xs) fun vs=>Ys p vs
def bG2 (aA:aG):∀xs:List X,bH fun o=>vI o aA xs
 |[]=>by simp only[vI];exact bH.const _|x::xs=>by simp only[vI];exact bH.bind (O1 aA x) fun v=>bH.bind (bG2 aA xs) fun vs=>bH.const _
end
def bG1 (aA:aG):∀(rs:List (Nat×X)) (acc:aG),bH fun o=>wJ o aA rs acc
 |[],acc=>by simp only[wJ];exact bH.const _|p::r,acc=>by simp only[wJ];refine bH.bind (O1 aA p.2) fun v=> ?_;split;exact bG1 aA r _;exact bH.const _
def VO (aA:aG)(s:St):bH fun o=>bS o aA s:=by
 cases s with
 |q d p xs=>simp only[bS];exact bH.bind (bH.const _) fun vs=>bH.bind (Ys p vs) fun r=>bH.const _|call d f xs=>simp only[bS];exact bH.bind (bH.const _) fun vs=>bH.bind (bH.ask f vs) fun r=>bH.const _|callv d xs=>simp only[bS];exact bH.bind (bH.const _) fun vs=>bH.bind (Yu vs) fun r=>bH.const _|slc d k lo hi xs=>simp only[bS];exact bH.bind (bH.const _) fun vs=>bH.bind (Ys _ vs) fun r=>bH.const _|mv d s=>cases s<;>exact bH.const _|as d s=>cases s<;>exact bH.const _|ix d k s i=>exact bH.const _|fa d off n s=>cases s<;>exact bH.const _|sto sz s v=>cases s<;>exact bH.const _|app d e k b s y=>exact bH.const _|ext d i n=>exact bH.const _|bld d z ps xs=>exact bH.const _|bsl d e k xs=>exact bH.const _|box d s=>exact bH.const _|alo d z=>exact bH.const _|mkf d fn n xs=>exact bH.const _|mks d e b z n=>exact bH.const _|s2b d e s=>exact bH.const _|mkm d=>exact bH.const _|cpy d e k s y=>cases s<;>exact bH.const _|mget d kt z s k=>cases s<;>exact bH.const _|mset kt s k v=>cases s<;>exact bH.const _
 |callm d f mu s xs=>cases s with|t n=>exact bH.const _|c v=>cases v with|l es=>cases es<;>exact bH.const _|_=>exact bH.const _
def bF5:∀(ss:List St) (aA:aG),bH fun o=>nM o ss aA
 |[],aA=>by simp only[nM];exact bH.const _|s::r,aA=>by simp only[nM];exact bH.bind (VO aA s) fun aN=>bF5 r aN
def bF7 (aA:aG)(s:gX):bH fun o=>mB o aA s:=by
 cases s with
 |s st=>simp only[mB];exact VO aA st|gd c t d st=>simp only[mB];refine bH.bind (bH.const _) fun v=> ?_;cases v with|b u=>by_cases h:u=t;simp only[h,jA];exact VO aA st;simp only[h,mW];exact bH.const _|_=>exact bH.const _
 |pick d c a b=>simp only[mB];exact bH.const _
def bF6:∀(ss:List gX) (aA:aG),bH fun o=>C2 o ss aA
 |[],aA=>by simp only[C2];exact bH.const _|s::r,aA=>by simp only[C2];exact bH.bind (bF7 aA s) fun aN=>bF6 r aN
def Yt (aA:aG)(s:St):bH fun o=>iK o aA s:=by
 have hc:∀(d:Option Nat) (xs:List bF) (F:aU->List V->Option V),(∀vs,bH fun o=>F o vs)->bH fun o=>(if lJ aA xs then some (fH aA xs,d.toList) else MY ((eC aA xs).bind (F o)) (fH aA xs,d.toList) ([],d.toList++fH aA xs)):=by
  intro d xs F hF;by_cases hn:lJ aA xs=true;exact bH.congr (bH.const (some (fH aA xs,d.toList))) fun o=>by rw[hn];rfl
  have kC:lJ aA xs=false:=by simpa using hn
  have hB:bH fun o=>(eC aA xs).bind fun vs=>F o vs:=bH.bind (bH.const _) hF;intro o v h;have h:MY ((eC aA xs).bind (F o)) (fH aA xs,d.toList) ([],d.toList++fH aA xs)=some v:=by simpa only[kC,qW,mW] using h
  cases hr:(eC aA xs).bind (F o) with|none=>rw[hr] at h;cases h|some r=>obtain⟨L,h1,h2⟩:=hB o r hr;refine⟨L,h1,fun o' h'=> ?_⟩;have:=h2 o' h';simp only[kC,qW,mW];rw[show(eC aA xs).bind (F o')=some r from this];rw[hr] at h;exact h
 cases s with|call d f xs=>simp only[iK];exact hc d xs (fun o=>o f) fun vs=>bH.ask f vs|callv d xs=>simp only[iK];exact hc d xs AX fun vs=>Yu vs|mv d s=>cases s<;>exact bH.const _|as d s=>cases s<;>exact bH.const _|sto sz s v=>cases s<;>exact bH.const _|app d e k b s y=>cases s<;>exact bH.const _|q d p xs=>exact bH.const _|ix d k s i=>exact bH.const _|fa d off n s=>exact bH.const _|ext d i n=>exact bH.const _|bld d z ps xs=>exact bH.const _|bsl d e k xs=>exact bH.const _|box d s=>exact bH.const _|alo d z=>exact bH.const _|mkf d fn n xs=>exact bH.const _|slc d k lo hi xs=>exact bH.const _|mks d e b z n=>exact bH.const _|s2b d e s=>exact bH.const _|mkm d=>exact bH.const _|cpy d e k s y=>cases s<;>exact bH.const _|mget d kt z s k=>cases s<;>exact bH.const _|mset kt s k v=>cases s<;>exact bH.const _|callm d f mu s xs=>cases s<;>cases d<;>exact bH.const _
def bF9:∀(ss:List St) (aA:aG),bH fun o=>Jl o ss aA
 |[],aA=>by simp only[Jl];exact bH.const _|s::r,aA=>by simp only[Jl];refine bH.bind (VO aA s) fun e=>bH.bind (Yt aA s) fun f=> ?_;split;exact bH.bind (bF9 r e) fun p=>bH.const _;exact bH.const _
def dJ7 (ss:List St)(af:List (List Nat))(aA:aG):bH fun o=>KX o ss af aA:=by unfold KX;exact bH.bind (bF9 ss aA) fun p=>bH.const _
def dJ6 (aA:aG)(st:gX):bH fun o=>HA o aA st:=by
 cases st with
 |s st=>exact Yt aA st
 |gd c t d st=>
  simp only[HA];refine bH.bind (bH.const _) fun v=> ?_;cases v<;>first |exact bH.const _|skip
  simp only;split;simp only[Option.map_eq_bind];exact bH.bind (Yt aA st) fun f=>bH.const _;exact bH.const _
 |pick d c a b=>exact bH.const _
def bF8:∀(ss:List gX) (aA:aG),bH fun o=>Ep o ss aA
 |[],aA=>by simp only[Ep];exact bH.const _|s::r,aA=>by simp only[Ep];refine bH.bind (bF7 aA s) fun e=>bH.bind (dJ6 aA s) fun f=> ?_;split;exact bH.bind (bF8 r e) fun p=>bH.const _;exact bH.const _
def dJ8 (ss:List gX)(af:List (List Nat))(aA:aG):bH fun o=>Fi o ss af aA:=by unfold Fi;exact bH.bind (bF8 ss aA) fun p=>bH.const _
def bG0 {f:aU->aG->Option (Ex×aG)}(hf:∀aA,bH fun o=>f o aA):∀(n:Nat) (aA:aG),bH fun o=>nA (f o) n aA
 |0,aA=>by simp only[nA];exact bH.const _|n+1,aA=>by simp only[nA];refine bH.bind (hf aA) fun p=> ?_;obtain⟨e,aN⟩:=p;cases e with|n=>exact bG0 hf n aN|e id=>exact bH.const _|r=>exact bH.const _
def dJ5 {f:aU->aG->Option (Ex×aG)}(hf:∀aA,bH fun o=>f o aA)(aA:aG):bH fun o=>C8 (f o) aA:=by intro o v h;have h':C8 (f o) aA=some v:=h;unfold C8 at h';split at h';obtain⟨L,h1,h2⟩:=bG0 hf _ aA o v h';exact⟨L,h1,fun o' oC=>RJ (h2 o' oC)⟩;cases h'
def Lr:∀(c:C) (aA:aG),bH fun o=>bI o c aA
 | .skip,aA=>by simp only[bI];exact bH.const _| .seq a b,aA=>by simp only[bI];refine bH.bind (Lr a aA) fun p=> ?_;obtain⟨e,aN⟩:=p;cases e with|n=>exact Lr b aN|e id=>exact bH.const _|r=>exact bH.const _
 | .q rs,aA=>by simp only[bI];exact bH.bind (bG1 aA rs aA) fun e=>bH.const _| .s ss ks,aA=>by simp only[bI];exact bH.bind (bF5 ss aA) fun e=>bH.const _| .d ss af ks,aA=>by simp only[bI];exact bH.bind (dJ7 ss af aA) fun e=>bH.const _| .g ss ks,aA=>by simp only[bI];exact bH.bind (bF6 ss aA) fun e=>bH.const _| .dg ss af ks,aA=>by simp only[bI];exact bH.bind (dJ8 ss af aA) fun e=>bH.const _
 | .cond x a b,aA=>by
  simp only[bI];refine bH.bind (O1 aA x) fun v=> ?_;cases v with
  |b t=>cases t with|true=>exact Lr a aA|false=>exact Lr b aA
  |_=>exact bH.const _
 | .blk id c,aA=>by simp only[bI];exact bH.bind (Lr c aA) fun p=>bH.const _| .loop kin c,aA=>by simp only[bI];exact dJ5 (f:=fun o e=>bI o c (keepE kin e)) (fun e=>Lr c _) aA| .exit id ks,aA=>by simp only[bI];exact bH.const _| .ret ks,aA=>by simp only[bI];exact bH.const _
def Yv (fc:aQ)(xs:List V):bH fun o=>BN o fc xs:=by unfold BN;split;exact bH.bind (Lr fc.body _) fun p=>bH.const _;exact bH.const _
noncomputable def yY (bJ:Nat->Option aQ)(ext:aU):Nat->aU
 |0=>fun f xs=>match bJ f with
  |some _=>none|none=>ext f xs
 |n+1=>fun f xs=>match bJ f with
  |some fc=>BN (yY bJ ext n) fc xs|none=>ext f xs
open Classical in
noncomputable def nE (bJ:Nat->Option aQ)(ext:aU):aU:=fun f xs=>if h:∃y,∃n,yY bJ ext n f xs=some y then some (Classical.choose h) else none
section
variable {bJ:Nat->Option aQ} {ext:aU}
def aS5:∀(n:Nat) f xs y,yY bJ ext n f xs=some y->yY bJ ext (n+1) f xs=some y
 |0,f,xs,y,h=>by simp only[yY] at h⊢;cases ht:bJ f with|none=>rw[ht] at h;exact h|some fc=>rw[ht] at h;cases h
 |n+1,f,xs,y,h=>by unfold yY at h⊢;cases ht:bJ f with|none=>rw[ht] at h;exact h|some fc=>rw[ht] at h;exact(Yv fc xs).mono (fun g zs z hz=>aS5 n g zs z hz) h
def UM {n m:Nat}(hm:n<=m){f:Nat}{xs:List V}{y:V}(h:yY bJ ext n f xs=some y):yY bJ ext m f xs=some y:=by induction hm with|refl=>exact h|step _ ih=>exact aS5 _ _ _ _ ih
def aE9 {n f:Nat}{xs:List V}{y:V}(h:yY bJ ext n f xs=some y):nE bJ ext f xs=some y:=by have hx:∃y,∃n,yY bJ ext n f xs=some y:=⟨y,n,h⟩;unfold nE;rw[H2 hx];obtain⟨m,hm⟩:=EV hx;have h1:=UM (Nat.le_max_left n m) h;have h2:=UM (Nat.le_max_right n m) hm;rw[h1] at h2;exact h2.symm
def bW5 {f:Nat}{xs:List V}{y:V}:nE bJ ext f xs=some y↔∃n,yY bJ ext n f xs=some y:=by refine⟨fun h=> ?_,fun⟨n,h⟩=>aE9 h⟩;unfold nE at h;split at h;rename_i hx;cases h;exact EV hx;cases h
def bW6 {f:Nat}{fc:aQ}(ht:bJ f=some fc){xs:List V}{y:V}(h:BN (nE bJ ext) fc xs=some y):nE bJ ext f xs=some y:=by
 obtain⟨L,h1,h2⟩:=Yv fc xs _ y h;have:∀L:List (Nat×List V×V),(∀p∈L,nE bJ ext p.1 p.2.1=some p.2.2)->∃n,∀p∈L,yY bJ ext n p.1 p.2.1=some p.2.2:=by intro L;induction L with|nil=>intro _;exact⟨0,by simp⟩|cons p L ih=>intro hp;obtain⟨n,hn⟩:=ih fun q hq=>hp q (dL _ hq);obtain⟨m,hm⟩:=bW5.1 (hp p (dC ..));refine⟨max n m,fun q hq=> ?_⟩;rcases eP.1 hq with rfl|hq;exact UM (Nat.le_max_right _ _) hm;exact UM (Nat.le_max_left _ _) (hn q hq)
 obtain⟨n,hn⟩:=this L h1;refine aE9 (n:=n+1) ?_;simp only[yY,ht];exact h2 _ hn
def vJ {f:Nat}(ht:bJ f=none){xs:List V}{y:V}(h:ext f xs=some y):nE bJ ext f xs=some y:=aE9 (n:=0) (by simp only[yY,ht];exact h)
def SB {P:Program}(hc:∀f fc,bJ f=some fc->∃fn,P.funcs[f]? =some fn/\oU P fn=some fc/\jG P f=true)(he:∀f xs y,ext f xs=some y->jG P f=true/\PF P f xs y)(hM:Ko P):eL P (nE bJ ext):=by
 have key:∀n,eL P (yY bJ ext n):=by
  intro n;induction n with
  |zero=>refine⟨hM,?_⟩;intro f xs y h;simp only[yY] at h;cases ht:bJ f with|none=>rw[ht] at h;exact he f xs y h|some fc=>rw[ht] at h;cases h
  |succ n ih=>refine⟨hM,?_⟩;intro f xs y h;simp only[yY] at h;cases ht:bJ f with|none=>rw[ht] at h;exact he f xs y h|some fc=>rw[ht] at h;obtain⟨fn,h1,h2,h3⟩:=hc f fc ht;exact⟨h3,aO5 ih h1 h2 h⟩
 refine⟨hM,?_⟩;intro f xs y h;obtain⟨n,hn⟩:=bW5.1 h;exact(key n).2 f xs y hn
end
end Go.VM
namespace Go.VM
variable [cB]
def EN (o:aU)(k:Nat):C->aG->Option (Ex×aG)
 | .skip,aA=>some (.n,aA)
 | .seq a b,aA=>(EN o k a aA).bind fun p=>match p.1 with
  | .n=>EN o k b p.2|e=>some (e,p.2)
 | .q rs,aA=>(wJ o aA rs aA).bind fun e=>some (.n,e)| .s ss ks,aA=>(nM o ss aA).bind fun e=>some (.n,dropE ks e)| .d ss af ks,aA=>(KX o ss af aA).bind fun e=>some (.n,dropE ks e)| .g ss ks,aA=>(C2 o ss aA).bind fun e=>some (.n,dropE ks e)| .dg ss af ks,aA=>(Fi o ss af aA).bind fun e=>some (.n,dropE ks e)
 | .cond x a b,aA=>(dJ o aA x).bind fun v=>match v with
  | .b t=>if t then EN o k a aA else EN o k b aA|_=>none
 | .blk id c,aA=>(EN o k c aA).bind fun p=>match p.1 with
  | .e j=>if j=id then some (.n,p.2) else some (.e j,p.2)|e=>some (e,p.2)
 | .loop kin c,aA=>nA (fun e=>EN o k c (keepE kin e)) k aA| .exit id ks,aA=>some (.e id,keepE ks aA)| .ret ks,aA=>some (.r,keepE ks aA)
def bD1 {f g:aG->Option (Ex×aG)}(h:∀e r,f e=some r->g e=some r):∀(n:Nat) (aA:aG) r,nA f n aA=some r->nA g n aA=some r
 |0,_,_,hr=>by simp[nA] at hr|n+1,aA,r,hr=>by simp only[nA,bL] at hr⊢;obtain⟨⟨e,aN⟩,h1,h2⟩:=hr;refine⟨(e,aN),h _ _ h1,?_⟩;cases e with|n=>exact bD1 h n aN r h2|e id=>exact h2|r=>exact h2
def MZ (o:aU)(k:Nat):∀(c:C) (aA:aG) r,EN o k c aA=some r->bI o c aA=some r
 | .skip,aA,r,h=>h| .seq a b,aA,r,h=>by simp only[EN,bL] at h;obtain⟨⟨e,aN⟩,h1,h2⟩:=h;simp only[bI,MZ o k a aA _ h1,aZ];cases e with|n=>exact MZ o k b aN r h2|e id=>exact h2|r=>exact h2
 | .q rs,aA,r,h=>h| .s ss ks,aA,r,h=>h| .d ss af ks,aA,r,h=>h| .g ss ks,aA,r,h=>h| .dg ss af ks,aA,r,h=>h
 | .cond x a b,aA,r,h=>by
  simp only[EN,bL] at h;obtain⟨v,h1,h2⟩:=h;simp only[bI,h1,aZ];cases v<;>first |(cases h2;done)|skip
  rename_i t;cases t with|true=>exact MZ o k a aA r h2|false=>exact MZ o k b aA r h2
 | .blk id c,aA,r,h=>by simp only[EN,bL] at h;obtain⟨⟨e,aN⟩,h1,h2⟩:=h;simp only[bI,MZ o k c aA _ h1,aZ];exact h2
 | .loop kin c,aA,r,h=>by simp only[EN] at h;simp only[bI];exact RJ (bD1 (fun e r hr=>MZ o k c _ r hr) k aA r h)| .exit id ks,aA,r,h=>h| .ret ks,aA,r,h=>h
def ZT (o:aU)(k:Nat)(fc:aQ)(args:List V):Option V:=
 if args.length=fc.np/\args.all V.arg=true then(EN o k fc.body (kR 0 args)).bind fun p=>match p.1 with| .e _=>none|_=>yA fc.res p.2
 else none
def eY1 {o:aU}{k:Nat}{fc:aQ}{args:List V}{y:V}(h:ZT o k fc args=some y):BN o fc args=some y:=by unfold ZT at h;unfold BN;split at h;rename_i hc;rw[aY hc];simp only[bL] at h⊢;obtain⟨p,h1,h2⟩:=h;exact⟨p,MZ o k _ _ _ h1,h2⟩;cases h
def VB (bJ:Nat->Option aQ)(ext:aU)(k:Nat):Nat->aU
 |0=>fun _ _=>none
 |n+1=>fun f xs=>match bJ f with
  |some fc=>ZT (VB bJ ext k n) k fc xs|none=>ext f xs
def Gc {bJ:Nat->Option aQ}{ext:aU}{k:Nat}:∀(n f:Nat) (xs:List V) (y:V),VB bJ ext k n f xs=some y->nE bJ ext f xs=some y
 |0,f,xs,y,h=>by simp[VB] at h|n+1,f,xs,y,h=>by simp only[VB] at h;cases ht:bJ f with|none=>rw[ht] at h;exact vJ ht h|some fc=>rw[ht] at h;exact bW6 ht ((Yv fc xs).mono (fun g zs z hz=>Gc n g zs z hz) (eY1 h))
def Lj:List (Nat×aQ)->Nat->Option aQ
 |[],_=>none|p::r,f=>if f=p.1 then some p.2 else Lj r f
def aY3 {f:Nat}{fc:aQ}:∀{l:List (Nat×aQ)},Lj l f=some fc->(f,fc)∈l
 |[],h=>by simp[Lj] at h|p::r,h=>by simp only[Lj] at h;split at h;rename_i e;cases h;subst e;exact dC ..;exact dL _ (aY3 h)
end Go.VM
