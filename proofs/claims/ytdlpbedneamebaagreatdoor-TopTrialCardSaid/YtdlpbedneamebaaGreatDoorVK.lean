/-
The evaluator and its soundness: part of the proof of the last text.
-/
import Derived.Test.YtdlpbedneamebaaGreatDoorVH
import Derived.Shelf.Slices.Reverse
import Derived.Lib.OwnBridge
import Derived.Shelf.SlSortCmp.NoneTotal
set_option linter.all false
namespace Go.VM
open Go.Sort Go.Lib Go.Proofs Go.Shelf Go.RowKit
variable [cB]
def Hv:List V->Option (List Int)
 |[]=>some []| .i .i64 n::r=>(Hv r).map (n::·)|_=>none
abbrev bQ (l:List Int):List V:=aB (V.i .i64) l
@[simp] def fF7 (l:List Int):Hv (bQ l)=some l:=by induction l with|nil=>rfl|cons x l ih=>simp only[bQ,BI,Hv] at ih⊢;rw[ih];rfl
def aV0:∀{es:List V} {zs:List Int},Hv es=some zs->es=bQ zs
 |[],zs,h=>by simp only[Hv,aH] at h;subst h;rfl
 |x::r,zs,h=>by
  unfold Hv at h;split at h;rename_i he;cases he;rename_i n r' he;cases he;cases hr:Hv r with|none=>rw[hr] at h;cases h|some ys=>rw[hr] at h;simp only[eB,aH] at h;subst h;rw[aV0 hr];simp[bQ,BI]
  cases h
def OQ (es xs:List V):Option (List V):=match xs with|[]=>(Hv es).bind fun zs=>if zs.length<=1000000 then some (bQ zs.reverse) else none|_=>none
section
variable {P:Program} {S:Nat->Prop} {w:World} {e:TypeId}
def Vo (zs:List Int):cL (bQ zs)=bQ zs:=by induction zs with|nil=>rfl|cons x l ih=>rw[bQ,BI,tC];rw[bQ] at ih;rw[ih];rfl
def bE0:∀{vs:List Value} {zs:List Int},aX S w vs (bQ zs)->vs=zs.map (Value.int .i64)
 |[],[],_=>rfl|[],_::_,h=>absurd h.1 (by simp)|_::_,[],h=>absurd h.1 (by simp)|v::vs,z::zs,h=>by rw[bQ,BI] at h;have h1:=h.head;have h2:=bE0 (zs:=zs) h.tail;rw[fF,<-h2];cases h1;rfl
def bP5 (zs:List Int):aX S w (zs.map (Value.int .i64)) (bQ zs):=by induction zs with|nil=>exact aX.nil|cons z zs ih=>rw[bQ,BI,fF];exact aX.cons (.i .i64 z) ih
def Zw (hc:P.cellsOf e=1)(zs:List Int):∀x∈bQ zs,x.cells.length=P.cellsOf e:=fun x hx=>by obtain⟨n,_,rfl⟩:=jL.1 hx;rw[hc];rfl
def Zx (zs:List Int):∀x∈cL (bQ zs),x.cell=true:=fun x hx=>by rw[Vo] at hx;obtain⟨n,_,rfl⟩:=jL.1 hx;rfl
def Zi (zs:List Int):(bQ zs).length=zs.length:=by simp[bQ]
def dQ6 {f:FuncId}{nl ret:Bool}(hc:P.cellsOf e=1){zs ys:List Int}
  (h0:zs=[]->∀w,Calls P f #[.slice none 0 0] w fun ex w'=>ys=[]/\ex= .returned (if ret=true then .slice none 0 0 else .tuple #[])/\w'=w)
  (h1:∀(w:World) (aD g cap:Nat),w.ownsRow aD e 1 (.slice (some ⟨g,0,none⟩) zs.length cap) zs.length (zs.map (Value.int .i64))->aD<=g->g<w.heap.size->zs.length<=cap->Holds (Value.int .i64) w g 0 zs.toArray->
   Calls P f #[.slice (some ⟨g,0,none⟩) zs.length cap] w fun ex w'=>ex= .returned (if ret=true then .slice (some ⟨g,0,none⟩) ys.length cap else .tuple #[])/\(ret=false->ys.length=zs.length)/\w.grownBy w' (some g)/\w'.ownsRow aD e 1 (.slice (some ⟨g,0,none⟩) ys.length cap) ys.length (ys.map (Value.int .i64))):
  JD P f e ret nl (bQ zs) [] (bQ ys):=by
 intro S w aD u vs us hS hG hB cA hk cK hr oD iD _;have hus0:us=[]:=pL iD.1;subst hus0;rw[Vo] at hr;have jP:=bE0 hr;subst jP;rw[Zi,hc] at cA;by_cases tA:u= .slice none 0 0;subst tA;have Dw:zs=[]:=by have:=cA.1;rcases cA.2 with⟨_,h⟩|⟨g,cap,cur,h,_⟩;exact pL h;cases h
 refine(h0 Dw w).mono fun ex w' ⟨hy,he,hw⟩=> ?_;subst hw hy;refine⟨_,.slice none 0 0,[],he,⟨rfl,rfl,rfl,dD _,fun _ _ _=>rfl⟩,.inl rfl,LJ w' aD e _,Zw hc [],Zx [],aX.nil,?_⟩;cases ret<;>simp;obtain⟨g,cap,hu,sF,ED,hncap,_,_,hH⟩:=Lib.holds_of_ownsRow cA tA;subst hu;refine(h1 w aD g cap cA sF ED hncap hH).mono fun ex w' ⟨he,hl,hg,ho⟩=> ?_;refine⟨_,.slice (some ⟨g,0,none⟩) ys.length cap,ys.map (Value.int .i64),he,hg,.inl rfl,?_,Zw hc _,Zx _,by rw[Vo];exact bP5 _,?_⟩;rw[Zi,hc];exact ho;cases ret with|true=>simp|false=>simp[hl rfl]
def eH5 {g q:Nat}(d:Array Int):w.grownBy (putRow (Value.int .i64) (Sort.ahead w q) g 0 d) (some g):=by refine⟨rfl,rfl,rfl,by simp[putRow,mapBlock,Sort.ahead],fun k hk bM=> ?_⟩;have:g≠k:=fun e=>bM (by rw[e]);simp[putRow,mapBlock,Sort.ahead,HV,this]
def dG4 {ρ:Ren}(L:Lays.n112 P ρ)(hc:P.cellsOf e=1)(es xs bW:List V)(h:OQ es xs=some bW):JD P (ρ.f 112) e false false es xs bW:=by
 unfold OQ at h;split at h;cases hz:Hv es with|none=>rw[hz] at h;cases h|some zs=>rw[hz] at h;simp only[aZ] at h;split at h;rename_i dA;simp only[aH] at h;subst h;have:=aV0 hz;subst this;refine dQ6 hc (fun Dw w=> ?_) fun w aD g cap cA sF ED hncap hH=> ?_;subst Dw;exact(Any.slices_Reverse_int_empty L none 0 w).mono fun ex w' ⟨he,hw⟩=>⟨rfl,he,hw⟩;refine(Any.slices_Reverse_int L g 0 cap zs w hH (by omega)).mono fun ex w' ⟨he,q,hw⟩=> ?_;subst hw;have hp:=Lib.ownsRow_putRow (q:=q) (k:=zs.length) (ys:=zs.reverse) cA (by simp) (dD _);rw[rM (by simp)] at hp;refine⟨he,fun _=>by simp,eH5 _,?_⟩;rw[List.length_reverse];exact hp;cases h
 cases h
end
end Go.VM
namespace Go.VM
variable [cB]
def Ls:List V:=(List.range 20).map fun k=> .i .u64 (10 ^ k)
def OE (P:Program)(l:List (Nat×aQ))(f:Nat):Option aQ:=match Lj l f with|some c=>some c|none=>if jG P f=true then(P.funcs[f]?).bind (oU P) else none
def YE {P:Program}{l:List (Nat×aQ)}(h:∀p∈l,∃fn,P.funcs[p.1]? =some fn/\oU P fn=some p.2/\jG P p.1=true){f:Nat}{fc:aQ}(hf:OE P l f=some fc):
  ∃fn,P.funcs[f]? =some fn/\oU P fn=some fc/\jG P f=true:=by
 unfold OE at hf;split at hf;rename_i c hc;cases hf;exact h _ (aY3 hc);split at hf;rename_i ho;simp only[bL] at hf;obtain⟨fn,h1,h2⟩:=hf;exact⟨fn,h1,h2,ho⟩;cases hf
end Go.VM
namespace Go.VM
open Go.Sort Go.Lib Go.Proofs Go.Shelf Go.RowKit
variable [cB]
section
variable {P:Program} {S:Nat->Prop} {w:World} {e:TypeId} {α:Type} [Inhabited α]
omit [cB] in
def bS8 {enc:α->List Value}{k:Nat}(hk:∀x,(enc x).length=k):∀(zs:List α) (t:Nat),t<zs.length*k->(zs.flatMap enc)[t]? =(enc zs[t / k]!)[t % k]?
 |[],t,h=>by simp at h
 |x::r,t,h=>by
  rw[D5];by_cases ht:t<k;rw[BU (by rw[hk];exact ht),Nat.div_eq_of_lt ht,Nat.mod_eq_of_lt ht];simp;have hk0:0<k:=by rcases X9 k with h0|h0;subst h0;simp at h;exact h0
  rw[D6 (by rw[hk];omega),hk,bS8 hk r (t - k) (by simp only[fY,D1,Nat.one_mul] at h;omega)];have e1:t / k=(t - k) / k+1:=by rw[Nat.div_eq_sub_div hk0 (by omega)]
  have e2:t % k=(t - k) % k:=Nat.mod_eq_sub_mod (by omega);rw[e1,e2];simp
omit [cB] in
def Vp {enc:α->List Value}{k:Nat}(hk:∀x,(enc x).length=k)(zs:List α):(zs.flatMap enc).length=zs.length*k:=by induction zs with|nil=>simp|cons x r ih=>rw[D5,kH,ih,hk,fY,D1,Nat.one_mul,Nat.add_comm]
omit [cB] in
def bS9 {enc:α->List Value}{k:Nat}(hk:∀x,(enc x).length=k)(zs:List α):flatK enc k zs.toArray=(zs.flatMap enc).toArray:=by
 refine ext_get! (by simp[Vp hk]) fun t ht=> ?_;have ht':t<zs.length*k:=by simpa using ht
 rw[get_flatK _ _ _ _ (by simpa using ht')];have h:=bS8 hk zs t ht';have hl:=Vp hk zs;rw[eI (by omega)] at h;rw[Nc (zs.flatMap enc).toArray t (by simp[hl,ht'])];have hm:t % k<(enc zs[t / k]!).length:=by rw[hk];refine Nat.mod_lt _ ?_;rcases X9 k with h0|h0;subst h0;simp at ht';exact h0
 rw[eI hm] at h;simp only[aH] at h;simp only[List.getElem_toArray,List.getElem!_toArray];rw[Nc (enc zs[t / k]!) (t % k) hm,h]
omit [cB] in
def eH1 {g:Nat}{cur:Array Value}{ss:List Value}(hb:w.heap[g]? =some (.cells cur e (0,0)))(ht:cur.toList.take ss.length=ss):Holds id w g 0 ss.toArray:=by
 intro j hj;have jH:j<ss.length:=by simpa using hj
 refine⟨?_,by simp[World.frozen?,hb]⟩;have h1:(cur.toList.take ss.length)[j]? =ss[j]? :=by rw[ht]
 rw[QE jH] at h1;simp only[World.cell?,hb,E0];simp only[Nb,qW,mW];rw[<-vQ,h1];simp[jH]
omit [cB] in
def eH2 {g n:Nat}{os:Array Obj}{cur:Array Value}{fr:Nat×Nat}(d:Array Value)(hb:w.heap[g]? =some (.cells cur e fr)):
  (grow (putRow id (Sort.ahead w n) g 0 d) os).heap[g]? =some (.cells (putCells id 0 d cur) e fr):=by
 have hg:g<w.heap.size:=(j6.1 hb).1;rw[heap_grow_old _ _ (by simpa using hg)];simp[putRow,mapBlock,Sort.ahead,HV,hb,onCells]
omit [cB] in
def eH4 {g n:Nat}{os:Array Obj}(d:Array Value):w.grownBy (grow (putRow id (Sort.ahead w n) g 0 d) os) (some g):=by refine⟨rfl,rfl,rfl,by simp,fun k hk bM=> ?_⟩;rw[heap_grow_old _ _ (by simpa using hk)];have:g≠k:=fun e=>bM (by rw[e]);simp[putRow,mapBlock,Sort.ahead,HV,this]
omit [cB] in
def cW2 (cur:Array Value)(ts:List Value)(h:ts.length<=cur.size):(putCells id 0 ts.toArray cur).toList.take ts.length=ts:=by apply GO;intro j;by_cases hj:j<ts.length;rw[QE hj,vQ];simp[putCells,hj,show j<cur.size by omega];rw[List.getElem?_take_eq_none (by omega),Tq (by omega)]
omit [cB] in
def dK8 {d d':Array α}(h:PermIn 0 d.size d d'):d'.toList.Perm d.toList:=by
 have h3:=h.2.2;have e1:d.extract 0 d.size=d:=by simp
 have e2:d'.extract 0 d.size=d':=by rw[<-h.1];simp
 rwa[e1,e2] at h3
omit [cB] in
def dL0 {lt:α->α->Bool}{d:Array α}(h:SortedIn lt 0 d.size d):d.toList.Pairwise fun x y=>lt y x=false:=by
 rw[Ty];intro i j hi hj pY;have kO:i<d.size:=by simpa using hi
 have jH:j<d.size:=by simpa using hj
 have:=h i j (A6 _) pY jH;rw[Nc d j jH,Nc d i kO] at this;simpa using this
set_option maxHeartbeats 1000000 in
def dC5 {ρ:Ren}(L:SlLaysF0.n6 P ρ){k:Nat}(aE:∀w,(isAgg (ρ.t 24)).run P w= .ok true w)(zE:∀w,(Go.sizeOf (ρ.t 24)).run P w= .ok k w)(hc:P.cellsOf e=k)
  {enc:α->List Value}{encV:α->V}(hk:∀x,(enc x).length=k)(h1:∀x,∀v∈enc x,v.oneCell'=true)(hkV:∀x,(encV x).cells.length=k)(hcV:∀x,∀c∈(encV x).cells,c.cell=true)
  (cC:∀(S:Nat->Prop) (w:World) (vs:List Value) (x:α),aX S w vs (encV x).cells->vs=enc x)(Vi:∀(S:Nat->Prop) (w:World) (x:α),aX S w (enc x) (encV x).cells)
  {cf:α->α->Int}(hO:SWO (ltOf cf)){g:Nat}(eg:∀args w,(callFunc g args).run P w= .ok (.enter g args) w)(hcmp:∀blk off size w,CmpLays P g #[] enc k cf blk off size w)
  {zs ys:List α}(hu:∀l:List α,l.Perm zs->l.Pairwise (fun x y=>ltOf cf y x=false)->l=ys)(dA:zs.length<=1000000):
  JD P (ρ.f 6) e false false (zs.map encV) [.f (.func g) [] []] (ys.map encV):=by
 have reps_to:∀(S:Nat->Prop) (w:World) (l:List α) (vs:List Value),aX S w vs (cL (l.map encV))->vs=l.flatMap enc:=by
  intro S w l;induction l with
  |nil=>intro vs h;exact pL h.1
  |cons x r ih=>
   intro vs h;rw[fF,tC] at h;have bT:=h.1;rw[kH,hkV] at bT;have rE:vs=vs.take k++vs.drop k:=(DZ k vs).symm;have ha:aX S w (vs.take k) (encV x).cells:=by refine⟨by rw[gO,hkV];omega,fun j v y hv hy=>h.2 j v y ?_ ?_⟩;have hj:j<(vs.take k).length:=(fE.1 hv).1;rw[QE (by simp at hj;omega)] at hv;exact hv;have hj:j<(encV x).cells.length:=(fE.1 hy).1;rw[BU hj];exact hy
   have hb:aX S w (vs.drop k) (cL (r.map encV)):=by refine⟨by rw[oW];omega,fun j v y hv hy=>h.2 (k+j) v y ?_ ?_⟩;rw[xD] at hv;exact hv;rw[D6 (by rw[hkV];omega),hkV,Nat.add_sub_cancel_left];exact hy
   rw[rE,cC S w _ x ha,ih _ hb,D5]
 have reps_from:∀(S:Nat->Prop) (w:World) (l:List α),aX S w (l.flatMap enc) (cL (l.map encV)):=by intro S w l;induction l with|nil=>exact aX.nil|cons x r ih=>rw[fF,tC,D5];exact aX.append (Vi S w x) ih
 have cellsV:∀l:List α,∀x∈l.map encV,x.cells.length=P.cellsOf e:=by intro l x hx;obtain⟨y,_,rfl⟩:=jL.1 hx;rw[hc];exact hkV y
 have cellV:∀l:List α,∀x∈cL (l.map encV),x.cell=true:=by intro l x hx;obtain⟨y,hy,hx⟩:=sM.1 hx;obtain⟨z,_,rfl⟩:=jL.1 hy;exact hcV z x hx
 intro S w aD u vs us hS hG hB cA _ _ hr oD iD _;have jP:=reps_to _ _ _ _ hr;subst jP;have hus1:us=[.func (.func g) #[] #[]]:=by
  match us,iD with
  |[v],h=>have h1:aP S w v (.f (.func g) [] []):=h.2 0 v _ rfl rfl;cases h1 with|f fn fs cs xs ys hx hy h h'=>have e1:fs= #[]:=XW hx;have e2:cs= #[]:=XW hy;subst e1 e2;rfl
  |[],h=>exact absurd h.1 (by simp)|_::_::_,h=>exact absurd h.1 (by simp)
 subst hus1;rw[uP,hc] at cA;have yB:ys.length=zs.length:=by
  have hp:(zs.mergeSort fun x y=> !ltOf cf y x).Perm zs:=List.mergeSort_perm zs _;have hs:(zs.mergeSort fun x y=> !ltOf cf y x).Pairwise fun x y=>ltOf cf y x=false:=
   (List.pairwise_mergeSort (le:=fun x y=> !ltOf cf y x) (fun a b c h1 h2=>by
    simp only[LB] at*;exact hO.ntrans _ _ _ h2 h1) (fun a b=>by
    cases h1:ltOf cf b a with
    |false=>simp
    |true=>
     cases h2:ltOf cf a b with
     |false=>simp
     |true=>have:=hO.trans _ _ _ h1 h2;rw[hO.irrefl] at this;cases this) zs).imp fun h=>by simpa using h
  rw[<-hu _ hp hs,hp.length_eq]
 by_cases tA:u= .slice none 0 0;subst tA;have Dw:zs=[]:=by
  rcases cA.2 with⟨h0,h⟩|⟨g,cap,cur,h,_⟩;have h2:zs.length=0:=by have:=jV (fun v:Value=>match v with | .slice _ n _=>n|_=>0) h0;first |exact h|simpa using this
  exact pL h2;cases h
 subst Dw;have Dx:ys=[]:=pL yB;subst Dx;refine(AnyF.slices_SortFunc_none L none 0 _ w).mono fun ex w' ⟨he,hw⟩=> ?_;subst hw;exact⟨_,.slice none 0 0,[],he,⟨rfl,rfl,rfl,dD _,fun _ _ _=>rfl⟩,.inl rfl,LJ w' aD e _,cellsV [],cellV [],aX.nil,by simp⟩;have hol:=cA.1;rcases cA.2 with⟨h0,_⟩|⟨g',cap,cur,hv,F5,hb,hn,hm,hs,ht⟩;exact absurd h0 tA;subst hv;have bE:g'<w.heap.size:=(j6.1 hb).1;have fC:=Vp hk zs;have hH:HoldsK enc k w g' 0 zs.toArray:=by unfold HoldsK;rw[bS9 hk];refine eH1 hb ?_;rw[fC];exact ht
 have hcall:=AnyQ.slices_SortFunc L k aE zE enc hk h1 cf hO g #[] g' 0 cap zs.toArray w eg (hcmp _ _ _ _) hH bE (by simp;omega);simp only[rL] at hcall;refine hcall.mono fun ex w' ⟨he,d',nn,os,hp,hso,hw⟩=> ?_;have hd:d'.toList=ys:=by refine hu _ ?_ ?_;have:=dK8 (d:=zs.toArray) (d':=d') (by simpa using hp);simpa using this;refine dL0 (d:=d') ?_;have:=hp.1;rw[this];simpa using hso
 have gU:d'=ys.toArray:=by rw[<-hd]
 subst gU hw;have hfy:=Vp hk ys;have I3:zs.length*k<=cap*k:=yR k hn;simp only[sortWorldK,putRowK,bS9 hk];refine⟨_,.slice (some ⟨g',0,none⟩) zs.length cap,ys.flatMap enc,he,eH4 _,.inl rfl,?_,cellsV _,cellV _,reps_from _ _ _,by simp⟩;rw[uP,hc,yB];refine⟨by rw[hfy,yB],.inr ⟨g',cap,_,rfl,F5,eH2 _ hb,hn,hm,by simp[putCells,hs],?_⟩⟩;have:=cW2 cur (ys.flatMap enc) (by rw[hfy,yB];omega);rwa[hfy,yB] at this
end
end Go.VM
