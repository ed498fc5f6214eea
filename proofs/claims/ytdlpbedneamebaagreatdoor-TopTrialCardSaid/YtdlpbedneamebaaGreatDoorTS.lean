/-
Plain laws and walks: part of the proof of the last text.
-/
import Derived.Test.YtdlpbedneamebaaGreatDoorTO
import Derived.Test.YtdlpbedneamebaaGreatDoorTypes
import Derived.Test.YtdlpbedneamebaaGreatDoorTR
import Derived.Lib.ItoaLen
import Derived.Lib.Bytealg
set_option linter.all false
namespace Go.Proofs.YtdlpbedneamebaaGreatDoor
open Go.RowKit Go.VM
abbrev GK:=Int×Int×ByteArray
def IR (x:GK):bG:=⟨x.1,x.2.1,x.2.2.data.toList⟩
def AP (e:Ev):aW:=⟨e.i0,e.i1,e.i2,e.i3,e.i4,e.i5,e.s6.data.toList,e.s7.data.toList,e.legs.map IR,e.u9⟩
section
variable {S:Nat->Prop} {w:World}
def YV {a:Addr}{u:Value}(h:w.cell? a=some u):a.spot=none:=by unfold World.cell? at h;split at h;split at h;cases h;rename_i hs;simpa using hs;cases h
def bM8:∀(l:List bG) (vs:List Value) (b o:Nat),aX S w vs (cL (aB bG.v l))->(∀(j:Nat) u,vs[j]? =some u->w.cell? ⟨b,o+j,none⟩=some u)->
  ∃xs:List GK,xs.map IR=l/\∀k x,xs[k]? =some x->Kq w b (o+k*3) x
 |[],vs,b,o,_,_=>⟨[],rfl,by simp⟩
 |x::r,vs,b,o,hr,hu=>by
  rw[BI,tC] at hr
  match vs,hr,hu with
  |a::c::d::dU,hr,hu=>
   have h0:aP S w a (.i .i64 x.account):=hr.2 0 a _ rfl rfl;have h1:aP S w c (.i .i64 x.amount):=hr.2 1 c _ rfl rfl;have h2:aP S w d (.s x.currency):=hr.2 2 d _ rfl rfl;cases h0;cases h1;obtain⟨s,rfl,hs⟩:∃s:ByteArray,d= .string s/\s.data.toList=x.currency:=by generalize hq:x.currency=q at h2;cases h2;exact⟨_,rfl,rfl⟩
   have kW:aX S w dU (cL (aB bG.v r)):=hr.tail.tail.tail;obtain⟨xs,r8,zD⟩:=bM8 r dU b (o+3) kW fun j u hj=>by have:=hu (j+3) u hj;rw[show o+3+j=o+(j+3) by omega];exact this
   refine⟨(x.account,x.amount,s)::xs,by simp[r8,IR,hs],fun k y hk=> ?_⟩;cases k with|zero=>simp only[D7,aH] at hk;subst hk;exact⟨hu 0 _ rfl,hu 1 _ rfl,hu 2 _ rfl⟩|succ k=>simp only[HY] at hk;have:=zD k y hk;rw[show o+(k+1)*3=o+3+k*3 by omega];exact this
  |[],hr,_=>exact absurd hr.1 (by simp[V.cells])|[_],hr,_=>exact absurd hr.1 (by simp[V.cells])|[_,_],hr,_=>exact absurd hr.1 (by simp[V.cells])
def dY5 {u:Value}{l:List bG}(h:aP S w u (.l (aB bG.v l))):∃(la:Option Addr) (c:Nat) (xs:List GK),u= .slice la xs.length c/\xs.map IR=l/\JF S w la xs:=by
 obtain⟨a,c,k,vs,rfl,hk,h1,hr,hc,hd⟩:=h.slice;rcases hd with he|⟨ad,rfl,hs,hu⟩;have hl:l=[]:=by cases l with|nil=>rfl|cons x r=>simp[BI] at he
 subst hl;exact⟨a,c,[],by simp[aB],rfl,.inl rfl⟩;cases l with
 |nil=>exact⟨some ad,c,[],by simp[aB],rfl,.inl rfl⟩
 |cons x r=>
  have rE:ad.spot=none:=by obtain⟨u0,AE,_⟩:=hr.getD (j:=0) (x:= .i .i64 x.account) rfl;exact YV (hu 0 u0 AE)
  obtain⟨b,o,sp⟩:=ad;simp only at rE;subst rE;obtain⟨xs,r8,zD⟩:=bM8 (x::r) vs b o hr fun j u hj=>by have:=hu j u hj;unfold Addr.add at this;split at this;rename_i h0;subst h0;exact this;exact this
  refine⟨some ⟨b,o,none⟩,c,xs,?_,r8,.inr ⟨b,o,rfl,hs,zD⟩⟩;have:xs.length=(x::r).length:=by rw[<-r8];simp
  rw[this];simp[aB]
def bV3:∀(l:List aW) (vs:List Value) (b o:Nat),aX S w vs (cL (aB aW.v l))->(∀(j:Nat) u,vs[j]? =some u->w.cell? ⟨b,o+j,none⟩=some u)->
  ∃es:List Ev,es.map AP=l/\∀k e,es[k]? =some e->Ku w b (o+k*10) e/\JF S w e.la e.legs
 |[],vs,b,o,_,_=>⟨[],rfl,by simp⟩
 |x::r,vs,b,o,hr,hu=>by
  rw[BI,tC] at hr;have bT:=hr.1;rw[kH] at bT;simp only[V.cells,fY,vR,E0,Nat.reduceAdd] at bT
  match vs,bT,hr,hu with
  |a0::a1::a2::a3::a4::a5::a6::a7::a8::a9::dU,_,hr,hu=>
   have h0:aP S w a0 (.i .i64 x.id):=hr.2 0 a0 _ rfl rfl;have h1:aP S w a1 (.i .i64 x.booked):=hr.2 1 a1 _ rfl rfl;have h2:aP S w a2 (.i .i64 x.value):=hr.2 2 a2 _ rfl rfl;have h3:aP S w a3 (.i .i64 x.kind):=hr.2 3 a3 _ rfl rfl;have h4:aP S w a4 (.i .i64 x.auth):=hr.2 4 a4 _ rfl rfl;have h5:aP S w a5 (.i .i64 x.period):=hr.2 5 a5 _ rfl rfl;have h6:aP S w a6 (.s x.key):=hr.2 6 a6 _ rfl rfl;have h7:aP S w a7 (.s x.text):=hr.2 7 a7 _ rfl rfl;have h8:aP S w a8 (.l (aB bG.v x.legs)):=hr.2 8 a8 _ rfl rfl;have h9:aP S w a9 (.i .u64 x.chain):=hr.2 9 a9 _ rfl rfl;cases h0;cases h1;cases h2;cases h3;cases h4;cases h5;cases h9;obtain⟨s6,rfl,hs6⟩:∃s:ByteArray,a6= .string s/\s.data.toList=x.key:=by generalize hq:x.key=q at h6;cases h6;exact⟨_,rfl,rfl⟩
   obtain⟨s7,rfl,hs7⟩:∃s:ByteArray,a7= .string s/\s.data.toList=x.text:=by generalize hq:x.text=q at h7;cases h7;exact⟨_,rfl,rfl⟩
   obtain⟨la,c,xs,rfl,r8,zD⟩:=dY5 h8;have kW:aX S w dU (cL (aB aW.v r)):=hr.tail.tail.tail.tail.tail.tail.tail.tail.tail.tail;obtain⟨es,F1,Cn⟩:=bV3 r dU b (o+10) kW fun j u hj=>by have:=hu (j+10) u hj;rw[show o+10+j=o+(j+10) by omega];exact this
   refine⟨⟨x.id,x.booked,x.value,x.kind,x.auth,x.period,s6,s7,la,c,xs,x.chain⟩::es,by simp[F1,AP,hs6,hs7,r8],fun k e hk=> ?_⟩;cases k with|zero=>simp only[D7,aH] at hk;subst hk;exact⟨⟨hu 0 _ rfl,hu 1 _ rfl,hu 2 _ rfl,hu 3 _ rfl,hu 4 _ rfl,hu 5 _ rfl,hu 6 _ rfl,hu 7 _ rfl,hu 8 _ rfl,hu 9 _ rfl⟩,zD⟩|succ k=>simp only[HY] at hk;have:=Cn k e hk;rw[show o+(k+1)*10=o+10+k*10 by omega];exact this
def eP7 {u:Value}{l:List aW}(h:aP S w u (.l (aB aW.v l))):∃(a:Option Addr) (c:Nat) (es:List Ev),u= .slice a es.length c/\es.map AP=l/\w7 S w a es:=by
 obtain⟨a,c,k,vs,rfl,hk,h1,hr,hc,hd⟩:=h.slice;rcases hd with he|⟨ad,rfl,hs,hu⟩;have hl:l=[]:=by cases l with|nil=>rfl|cons x r=>simp[BI] at he
 subst hl;exact⟨a,c,[],by simp[aB],rfl,.inl rfl⟩;cases l with
 |nil=>exact⟨some ad,c,[],by simp[aB],rfl,.inl rfl⟩
 |cons x r=>
  have rE:ad.spot=none:=by obtain⟨u0,AE,_⟩:=hr.getD (j:=0) (x:= .i .i64 x.id) rfl;exact YV (hu 0 u0 AE)
  obtain⟨b,o,sp⟩:=ad;simp only at rE;subst rE;obtain⟨es,r8,zD⟩:=bV3 (x::r) vs b o hr fun j u hj=>by have:=hu j u hj;unfold Addr.add at this;split at this;rename_i h0;subst h0;exact this;exact this
  refine⟨some ⟨b,o,none⟩,c,es,?_,r8,.inr ⟨b,o,rfl,hs,zD⟩⟩;have:es.length=(x::r).length:=by rw[<-r8];simp
  rw[this];simp[aB]
end
abbrev ents (l:List aW):List V:=aB aW.v l
def mv (a:Int)(l:List aW):List (aW×Int):=l.flatMap fun e=>(e.legs.filter fun x=>x.account=a).map fun x=>(e,x.amount)
def oN (a:Int)(l:List aW):Int:=(mv a l).foldl (fun s x=>wrap64 (s - x.2)) 0
def aC3 (e:aW):Bool:=decide (e.legs.length<=400)
def jok (l:List aW):Bool:=decide (l.length<=400)&&l.all aC3
def Zq {l:List aW}(h:jok l=true):l.length<=400:=by simp only[jok,fA,uS] at h;exact h.1
def Zr {l:List aW}(h:jok l=true):∀e∈l,e.legs.length<=400:=fun e he=>by simp only[jok,fA,eM] at h;have:=h.2 e he;simpa[aC3] using this
def mvE (x:Ev×Int):aW×Int:=(AP x.1,x.2)
def ZW (a:Int)(es:List Ev):(nB a es).map mvE=mv a (es.map AP):=by unfold nB mv;induction es with|nil=>rfl|cons e es ih=>rw[D5,HZ,ih,fF,D5];congr 1;unfold Cx;rw[DX,AP,List.filter_map,DX];rfl
def dP2 (a:Int)(es:List Ev):Oa (nB a es)=oN a (es.map AP):=by unfold oN;rw[<-ZW,Tp];rfl
def VZ {S:Nat->Prop}{w:World}{vs:List Value}{x:V}(h:aX S w vs [x]):∃v,vs=[v]/\aP S w v x:=by
 match vs,h with|[v],h=>exact⟨v,rfl,h.head⟩|[],h=>exact absurd h.1 (by simp)|_::_::_,h=>exact absurd h.1 (by simp)
def cB8 {S:Nat->Prop}{w:World}{vs:List Value}{x:V}{n:Int}(h:aX S w vs [x,.i .i64 n]):∃v,vs=[v,.int .i64 n]/\aP S w v x:=by
 match vs,h with|[v,u],h=>have h1:=h.tail.head;cases h1;exact⟨v,rfl,h.head⟩|[],h=>exact absurd h.1 (by simp)|[_],h=>exact absurd h.1 (by simp)|_::_::_::_,h=>exact absurd h.1 (by simp)
def journal {S:Nat->Prop}{w:World}{v:Value}{l:List aW}(hS:∀b,S b->b<w.heap.size)(h:aP S w v (.l (ents l)))(hj:jok l=true):∃(a:Option Addr) (c:Nat) (es:List Ev),v= .slice a es.length c/\es.map AP=l/\w7 (fun b=>b<w.heap.size) w a es/\es.length<=400/\(∀e∈es,e.legs.length<=400):=by obtain⟨a,c,es,rfl,he,hE⟩:=eP7 h;refine⟨a,c,es,rfl,he,hE.mono hS,?_,fun e hx=> ?_⟩;have:=Zq hj;rw[<-he] at this;simpa using this;have:=Zr hj (AP e) (by rw[<-he];exact jL.2 ⟨e,hx,rfl⟩);simpa[AP] using this
def Jt [cB]{f:FuncId}{w:World}{S:Nat->Prop}{args:Array Value}{u:Value}{y:V}(hS:∀b,S b->b<w.heap.size)(hy:∀(w':World),mJ Tryz.prog S w' w.heap.size u y)(h:Calls Tryz.prog f args w fun e w'=>e= .returned u/\Below w.heap.size w w'):
  Calls Tryz.prog f args w fun e w'=>∃v,e= .returned v/\Below w.heap.size w w'/\∃S':Nat->Prop,(∀b,S b->S' b)/\(∀b,S' b->(S b\/w.heap.size<=b)/\b<w'.heap.size)/\mJ Tryz.prog S' w' w.heap.size v y:=
 h.mono fun _ w' ⟨he,hb⟩=>⟨u,he,hb,S,fun _ h=>h,fun b h=>⟨.inl h,vU (hS b h) hb.size⟩,hy w'⟩
def bI6 {l:List aW}{a:Int}(hj:jok l=true):PF Tryz.prog 12 [.l (ents l),.i .i64 a] (.i .i64 (oN a l)):=by intro S w vs hS _ hr;obtain⟨v,rfl,hv⟩:=cB8 hr;obtain⟨ad,c,es,rfl,he,hE,h1,h2⟩:=journal hS hv hj;refine Jt (u:= .int .i64 (oN a l)) hS (fun w'=> .i _ _) ?_;have h:=callsIn_wide.1 (dP1 Fence.wide 3 trivial trivial trivial rfl (by omega) ad c a es w (by omega) (fun e he=>by have:=h2 e he;omega) hE);rw[dP2,he] at h;exact h
end Go.Proofs.YtdlpbedneamebaaGreatDoor
namespace Go.Proofs.YtdlpbedneamebaaGreatDoor
open Go.VM Go.RowKit Go.Shelf
def aB1:Tryz.prog.globalNamed "internal/strconv.uint64pow10"=some 0:=by kernel_rfl
def dJ9:Ls.length=20:=by decide
def aY2 {S:Nat->Prop}{w:World}(hG:mV S w):Lib.TabIs Tryz.prog w "internal/strconv.uint64pow10" .u64 Lib.pow10Tab:=by
 obtain⟨hr,_,hn⟩:=hG (0,Ls) (dC ..);unfold Lib.TabIs World.var?;rw[aB1];simp only[aZ];have dG:∀j,j<20->w.cell? ⟨0,j,none⟩=some (.int .u64 (10 ^ j)):=fun j hj=>by
  generalize hp:Value.pointer (some ⟨0,0,none⟩)=p at hr;cases hr with
  |r a cs vs hs h1 hl hu h=>
   cases hp;have pE:j<vs.length:=by rw[hl,dJ9];exact hj
   have h2:=hu j vs[j] (eI pE);rw[add_zero] at h2;have h3:=h j vs[j] (.i .u64 (10 ^ j)) (eI pE) (by simp[Ls,hj]);rw[h2];generalize vs[j]=y at h3;cases h3;rfl
 have h0:=dG 0 (by decide);unfold World.cell? at h0;cases hh:w.heap[0]? with
 |none=>simp[hh] at h0
 |some ob=>
  cases ob with
  |cells cs t fr=>
   simp only[aH];have hc:∀j,w.cell? ⟨0,j,none⟩=cs[j]? :=fun j=>by simp[World.cell?,hh]
   have dA:cs.size=20:=by
    have BF:=(hc 19).symm.trans (dG 19 (by decide));have h20:cs[20]? =none:=by rw[<-hc];exact hn
    have:=(j6.1 BF).1;simp at h20;omega
   apply Array.ext;simp[dA,Lib.pow10Tab];intro j h1 h2;have:=(hc j).symm.trans (dG j (by omega));rw[sL h1] at this;simp only[aH] at this;rw[this];simp[Lib.pow10Tab]
  |_=>simp[hh] at h0
def eE0 {n:Int}(h0: -9223372036854775808<=n)(h1:n<=9223372036854775807):PF Tryz.prog 203 [.i .i64 n] (.s (Lib.itoa n)):=by
 intro S w vs hS hG hr;obtain⟨v,rfl,hv⟩:=VZ hr;cases hv;refine Jt (u:= .string ⟨(Lib.itoa n).toArray⟩) hS (fun w'=>by
  have:aP S w' (.string ⟨(Lib.itoa n).toArray⟩) (.s (⟨(Lib.itoa n).toArray⟩:ByteArray).data.toList):= .s _;show aP S w' _ _;simpa using this) ?_
 refine(Any.strconv_Itoa Tryz.laysM171 n h0 h1 w (aY2 hG)).mono ?_;rintro e w' ⟨rfl,k,os,rfl⟩;exact⟨rfl,Lib.below_grow _ w (dD _) k os⟩
def Jf:List V->Option (List (List UInt8))
 |[]=>some []| .s x::r=>(Jf r).map (x::·)|_=>none
def aV5:∀{ts:List V} {l:List (List UInt8)},Jf ts=some l->ts=aB V.s l
 |[],l,h=>by cases h;rfl|x::r,l,h=>by unfold Jf at h;split at h;rename_i he;cases he;rename_i y r' he;cases he;simp only[gY] at h;obtain⟨t,h1,rfl⟩:=h;rw[aV5 h1];rfl;cases h
def Gi (s:List UInt8):List UInt8:=Lib.itoa s.length++58::s
def sZ (l:List (List UInt8)):List UInt8:=l.flatMap Gi
def eG6:(Tryz.prog.info? 5).map (fun i=>(i.zero,i.size,i.bytes))=some (some (.int .u8 0),1,1):=by kernel_rfl
def cD6 (w:World)(a:Option Addr)(l:List ByteArray):Prop:=l=[]\/∃b o,a=some ⟨b,o,none⟩/\b<w.heap.size/\∀k s,l[k]? =some s->w.cell? ⟨b,o+k,none⟩=some (.string s)
def rH (l:List ByteArray):List (List UInt8):=l.map fun s=>s.data.toList
def fB5 (B n:Nat)(i:Int)(h0: -9223372036854775808<=i)(h1:i<=9223372036854775807)(sv:Value)(xs:List Value)(w:World)(cA:w.ownsRow B 5 1 sv n xs)(hBw:B<=w.heap.size)(hlim:n+21<=140737488355328)
  (htab:Lib.TabBelow Tryz.prog B w "internal/strconv.uint64pow10" .u64 Lib.pow10Tab):
  Calls Tryz.prog 202 #[sv,.int .i64 i,.int .i64 10] w fun e w'=>∃v',e= .returned v'/\w'.ownsRow B 5 1 v' (n+(Lib.itoa i).length) (xs++Lib.byteCells (Lib.itoa i))/\Below B w w':=
 (Any.strconv_AppendInt_10 Tryz.laysM176 B n i h0 h1 sv xs w cA hBw hlim htab).mono fun _ _ ⟨v,h1,h2,h3,_⟩=>⟨v,h1,h2,h3⟩
def bH1 (l:List ByteArray)(k:Nat)(s:ByteArray)(h:l[k]? =some s):sZ (rH (l.take (k+1)))=sZ (rH (l.take k))++Gi s.data.toList:=by unfold sZ rH;rw[UB,h];simp
def dL1 (l:List ByteArray)(hs:∀s∈l,s.size<=1000000):(sZ (rH l)).length<=l.length*1000030:=by
 induction l with
 |nil=>simp[sZ,rH]
 |cons s l ih=>
  have h1:=ih fun s h=>hs s (dL _ h);have h2:=hs s (dC ..);have h3:=Lib.itoa_length_le (s.data.toList.length:Int) (by omega) (by have:s.data.toList.length=s.size:=rfl;omega);have e:sZ (rH (s::l))=Gi s.data.toList++sZ (rH l):=by simp[sZ,rH]
  rw[e,kH];have h4:(Gi s.data.toList).length<=1000030:=by unfold Gi;rw[kH,fY];have:s.data.toList.length=s.size:=rfl;omega
  simp only[fY];omega
set_option maxHeartbeats 6400000 in
set_option maxRecDepth 100000 in
def dL2 (a:Option Addr)(cap:Nat)(l:List ByteArray)(w:World)(hl:l.length<=1000)(hs:∀s∈l,s.size<=1000000)(hT:cD6 w a l)(htab:Lib.TabIs Tryz.prog w "internal/strconv.uint64pow10" .u64 Lib.pow10Tab):
  Calls Tryz.prog 165 #[.slice a l.length cap] w fun e w'=>e= .returned (.string ⟨(sZ (rH l)).toArray⟩)/\Below w.heap.size w w':=by
 obtain⟨i0,hi,Dw,FH,vC⟩:=info_parts eG6;have hTB:=Lib.tabBelow_of_tabIs htab
 go_enter Tryz.func165,Tryz.ntmps165
 go_wp2
 go_loopw [3,8] (fun v i wr=>∃k:Nat,k<=l.length/\i= .int .i64 k/\wr.ownsRow w.heap.size 5 1 v (sZ (rH (l.take k))).length (Lib.byteCells (sZ (rH (l.take k))))/\Below w.heap.size w wr)
  (fun _ i _=>l.length - (intOf i).toNat)
 case atStart=>exact⟨0,A6 _,rfl,LJ _ _ _ _,cZ _ _⟩
 case round=>
  obtain⟨k,hk,rfl,cA,hB⟩:=hrel;have bT:=dL1 (l.take k) (fun s h=>hs s (qF h));have vF:(l.take k).length<=1000:=by rw[gO];omega
  by_cases bE:k<l.length
  ·obtain⟨s,hsk⟩:∃s,l[k]? =some s:=⟨_,eI bE⟩;have eK:=hs s (k6 hsk);rcases hT with hT|⟨b,o,rfl,hb,hc⟩;rw[hT] at bE;cases bE;have dG:=(hB.cell (p:=⟨b,o+k,none⟩) hb).trans (hc k s hsk);generalize hn:(sZ (rH (l.take k))).length=n at cA bT;generalize hx:Lib.byteCells (sZ (rH (l.take k)))=xs at cA;have hnb:n<=1000*1000030:=fG bT (yR _ vF)
   go_wp2_with (go_at_call 202;refine(fB5 w.heap.size n (s.size:Int) (by omega) (by omega) _ xs wr cA hB.size (by omega) (hTB.on hB)).mono ?_;rintro e w1 ⟨v1,rfl,hown1,hnx1⟩;refine Hid.out ?_)
   refine Lib.hid ?_;have hi20:=Lib.itoa_length_le (s.size:Int) (by omega) (by omega);have t8:w.heap.size<=w1.heap.size:=fG hB.size hnx1.size;have hB1:Below w.heap.size w w1:=hB.trans hnx1
   go_wp2_with (at_builtin;refine wpList_append_own _ rfl _ _ 274 rfl w.heap.size 5 i0 (.int .u8 0) 1 1 Tryz.underlying274 hi Dw FH vC rfl (by decide) _ _ _ rfl (hown1.alloc _) ⟨w1.heap.size,0,none⟩ 1 1 [Value.int .u8 58] rfl rfl (by intro j u' hj;match j,hj with |0,hj=>simp at hj;subst hj;simp[Addr.add]) (by intro u' cP;simp at cP;subst cP;rfl) (by unfold maxLen;omega) (by omega) (by simp;omega) ?_)
   intro v2 w2 hown2 R9 _;have hnx2:Below w.heap.size w w2:=(hB1.alloc t8 _).grown R9 (by simp;omega) (fun k hk=>(hown1.lt k hk).1);obtain⟨v3,w3,hr3,hown3,hgrow3,_⟩:=Lib.run_append_own_string (P:=Tryz.prog) (w:=w2) w.heap.size 274 9 274 5 i0 Tryz.underlying274 Tryz.underlying9 hi Dw FH vC v2 _ _ hown2 s (by unfold maxLen;omega) (by omega) hnx2.size;have hnx3:Below w.heap.size w w3:=hnx2.grown hgrow3 hnx2.size (fun k hk=>(hown2.lt k hk).1)
   go_wp2_with (at_builtin;refine Lib.wpList_append_run _ rfl _ _ _ _ rfl _ _ rfl rfl _ _ hr3 ?_)
   refine⟨⟨k+1,by omega,by simp,?_,hnx3⟩,by simp[intOf];omega⟩;have e1:(sZ (rH (l.take (k+1)))).length=n+(Lib.itoa (s.size:Int)).length+1+s.size:=by rw[bH1 l k s hsk,kH,hn];unfold Gi;rw[kH,fY];have:s.data.toList.length=s.size:=rfl;rw[this];omega
   have e2:Lib.byteCells (sZ (rH (l.take (k+1))))=xs++Lib.byteCells (Lib.itoa (s.size:Int))++[Value.int .u8 58]++Lib.strCells s:=by rw[bH1 l k s hsk,<-hx];unfold Gi;have:s.data.toList.length=s.size:=rfl;rw[this];simp[Lib.byteCells,Lib.strCells]
   rw[e1,e2];simpa only[AZ] using hown3
  ·obtain rfl:k=l.length:=by omega
   rw[D0] at cA;generalize hp:sZ (rH l)=p at cA;rcases cA.2 with⟨rfl,h0⟩|⟨g,cap',cur,rfl,-,-,-,-,-,-⟩
   ·have vG:(convert 274 9 (.slice none 0 0)).run Tryz.prog wr= .ok (.string ByteArray.empty) wr:=by
     rw[run_convert_bytes_string wr 274 9 5 none 0 0 Tryz.underlying274 Tryz.underlying5 Tryz.underlying9];rfl
    have hp0:p=[]:=pL h0;subst hp0
    go_wp2
    go_ret
    refine⟨?_,hB⟩;rw[hp];rfl
   ·have vG:=run_convert_bytes_back (P:=Tryz.prog) wr 274 9 5 ⟨g,0,none⟩ cap' p Tryz.underlying274 Tryz.underlying5 Tryz.underlying9 (fun j hj=>cA.cells (g:=g) rfl j _ (by simp[Lib.byteCells,hj]));have HP:=Lib.hid hp;clear hp
    go_wp2
    go_ret
    have hp:=HP.out;subst hp;exact⟨rfl,hB⟩
def cP5 {S:Nat->Prop}{w:World}{u:Value}{l:List (List UInt8)}(hS:∀b,S b->b<w.heap.size)(h:aP S w u (.l (aB V.s l))):∃(a:Option Addr) (c:Nat) (xs:List ByteArray),u= .slice a xs.length c/\rH xs=l/\cD6 w a xs:=by
 obtain⟨a,c,k,vs,rfl,hk,h1,hr,hc,hd⟩:=h.slice;have fC:∀l:List (List UInt8),cL (aB V.s l)=aB V.s l:=fun l=>by induction l with|nil=>rfl|cons x l ih=>rw[BI,tC,ih];rfl
 rw[fC] at hr;have hx:∃xs:List ByteArray,vs=xs.map Value.string/\rH xs=l:=by
  clear h hd hk h1 hc;induction l generalizing vs with
  |nil=>have:vs=[]:=pL hr.1;exact⟨[],this,rfl⟩
  |cons x l ih=>
   match vs,hr with
   |[],hr=>exact absurd hr.1 (by simp)
   |v::vs,hr=>
    have h0:aP S w v (.s x):=hr.2 0 v _ rfl rfl;obtain⟨xs,rfl,rfl⟩:=ih vs hr.tail;obtain⟨y,rfl,rfl⟩:∃y:ByteArray,v= .string y/\y.data.toList=x:=by generalize x=q at h0;cases h0;exact⟨_,rfl,rfl⟩
    exact⟨y::xs,rfl,rfl⟩
 obtain⟨xs,rfl,rfl⟩:=hx;refine⟨a,c,xs,by simp[rH,aB],rfl,?_⟩;rcases hd with he|⟨ad,rfl,hs,hu⟩;left;cases xs with|nil=>rfl|cons x r=>simp[rH,aB] at he
 cases xs with|nil=>exact .inl rfl|cons x r=>have rE:ad.spot=none:=YV (hu 0 (.string x) rfl);obtain⟨b,o,sp⟩:=ad;simp only at rE;subst rE;refine .inr ⟨b,o,rfl,hS _ hs,fun k s hk=> ?_⟩;have:=hu k (.string s) (by rw[kG,hk];rfl);unfold Addr.add at this;split at this;rename_i h0;subst h0;exact this;exact this
def ZA (xs:List V):Option V:=match xs with|[.l ts]=>(Jf ts).bind fun l=>if l.length<=1000/\l.all (fun s=>decide (s.length<=1000000))=true then some (.s (sZ l)) else none|_=>none
def dL3 {xs:List V}{y:V}(h:ZA xs=some y):PF Tryz.prog 165 xs y:=by
 unfold ZA at h;split at h;rename_i ts;simp only[bL] at h;obtain⟨l,hl,h⟩:=h;split at h;rename_i hc;cases h;rw[aV5 hl];intro S w vs hS hG hr;obtain⟨v,rfl,hv⟩:=VZ hr;obtain⟨a,c,ys,rfl,rfl,hT⟩:=cP5 hS hv;refine Jt (u:= .string ⟨(sZ (rH ys)).toArray⟩) hS (fun w'=>by
  have:aP S w' (.string ⟨(sZ (rH ys)).toArray⟩) (.s (⟨(sZ (rH ys)).toArray⟩:ByteArray).data.toList):= .s _;show aP S w' _ _;simpa using this) ?_
 refine dL2 a c ys w (by simpa[rH] using hc.1) (fun s hs=> ?_) hT (aY2 hG);have:=eM.1 hc.2 s.data.toList (jL.2 ⟨s,hs,rfl⟩);simpa using this;cases h;cases h
def eV2 (s:ByteArray)(c:Int)(w:World):(callFunc 306 #[.string s,.int .u8 c]).run Tryz.prog w= .ok (.value (.int .i64 (Lib.countByte s.data.toList c.toNat.toUInt8))) w:=by rw[run_callFunc_extern Tryz.func306 (by kernel_rfl) (by kernel_rfl) (by kernel_rfl) (e:=Extern.BytealgCount.count) (by kernel_rfl),Lib.run_countString];rfl
set_option maxHeartbeats 6400000 in
set_option maxRecDepth 100000 in
def eT8 (s:ByteArray)(c:UInt8)(w:World):Calls Tryz.prog 292 #[.string s,.string ⟨#[c]⟩] w fun e w'=>e= .returned (.int .i64 (Lib.countByte s.data.toList c))/\w'=w:=by
 have hc:=eV2 s (((⟨#[c]⟩:ByteArray)[0]'(show 0<1 by decide)).toNat:Int);have he:(((⟨#[c]⟩:ByteArray)[0]'(show 0<1 by decide)).toNat:Int).toNat.toUInt8=c:=by show((c.toNat:Int).toNat).toUInt8=c;simp
 rw[he] at hc
 go_enter Tryz.func292,Tryz.ntmps292
 go_wp2_with (simp only[hc])
 all_goals go_ret
 all_goals exact⟨rfl,rfl⟩
def eV3 (s:List UInt8)(c:UInt8):PF Tryz.prog 292 [.s s,.s [c]] (.i .i64 (s.count c:Nat)):=by
 intro S w vs hS _ hr;have hl:=hr.1
 match vs,hr with|[u,v],hr=>have h1:=hr.head.val rfl;have h2:=hr.tail.head.val rfl;subst h1 h2;exact Jt (u:= .int .i64 (s.count c:Nat)) hS (fun w'=> .i _ _) ((eT8 ⟨s.toArray⟩ c w).mono fun e w' ⟨he,hw⟩=>⟨he,by rw[hw];exact cZ _ _⟩)|[],_=>simp at hl|[_],_=>simp at hl|_::_::_::_,_=>simp at hl
def K0 (k m:Int):Value:=if k=1 then .iface 221 (.agg #[]) else if k=2 then .iface 222 (.agg #[]) else if k=3 then .iface 223 (.agg #[]) else if k=4 then .iface 259 (.agg #[.int .i64 m]) else .iface 260 (.agg #[])
def M0 (k n:Int):Bool:=if k=1 then true else if k=2 then decide (0<n) else if k=3 then decide (n<0) else false
set_option maxHeartbeats 6400000 in
set_option maxRecDepth 100000 in
def PS (i a k m f t:Int)(s:ByteArray)(w:World):Calls Tryz.prog 155 #[.agg #[.int .i64 i,.int .i64 a,.int .i64 k,.int .i64 m,.int .i64 f,.int .i64 t,.string s]] w fun e w'=>e= .returned (K0 k m)/\Below w.heap.size w w':=by
 go_enter Tryz.func155,Tryz.ntmps155
 go_wp2
 all_goals go_ret
 all_goals refine⟨?_,(cZ _ w).alloc (dD _) _⟩
 all_goals simp_all[K0]
def cF0 (W:World):(do pure (Value.tuple #[<-zeroValue 221,.bool false]):Sem Value).run Tryz.prog W= .ok (.tuple #[.agg #[],.bool false]) W:=by kernel_rfl
def fA5 (W:World)(v:Value):(Instr.typeAssert (.iface 221 v) 20 221 true).run Tryz.prog W= .ok (.tuple #[v,.bool true]) W:=by kernel_rfl
def WG (W:World)(u:TypeId)(v:Value)(h:u≠221):(Instr.typeAssert (.iface u v) 20 221 true).run Tryz.prog W= .ok (.tuple #[.agg #[],.bool false]) W:=by
 have e:(Instr.typeAssert (.iface u v) 20 221 true).run Tryz.prog W=(if u=221 then(pure (Value.tuple #[v,.bool true]):Sem Value) else(do pure (Value.tuple #[<-zeroValue 221,.bool false]))).run Tryz.prog W:=by kernel_rfl
 rw[e,aK h];exact cF0 W
def cE9 (W:World):(do pure (Value.tuple #[<-zeroValue 222,.bool false]):Sem Value).run Tryz.prog W= .ok (.tuple #[.agg #[],.bool false]) W:=by kernel_rfl
def fA4 (W:World)(v:Value):(Instr.typeAssert (.iface 222 v) 20 222 true).run Tryz.prog W= .ok (.tuple #[v,.bool true]) W:=by kernel_rfl
def cB5 (W:World)(u:TypeId)(v:Value)(h:u≠222):(Instr.typeAssert (.iface u v) 20 222 true).run Tryz.prog W= .ok (.tuple #[.agg #[],.bool false]) W:=by
 have e:(Instr.typeAssert (.iface u v) 20 222 true).run Tryz.prog W=(if u=222 then(pure (Value.tuple #[v,.bool true]):Sem Value) else(do pure (Value.tuple #[<-zeroValue 222,.bool false]))).run Tryz.prog W:=by kernel_rfl
 rw[e,aK h];exact cE9 W
def cE8 (W:World):(do pure (Value.tuple #[<-zeroValue 223,.bool false]):Sem Value).run Tryz.prog W= .ok (.tuple #[.agg #[],.bool false]) W:=by kernel_rfl
def fA2 (W:World)(v:Value):(Instr.typeAssert (.iface 223 v) 20 223 true).run Tryz.prog W= .ok (.tuple #[v,.bool true]) W:=by kernel_rfl
def fA3 (W:World)(u:TypeId)(v:Value)(h:u≠223):(Instr.typeAssert (.iface u v) 20 223 true).run Tryz.prog W= .ok (.tuple #[.agg #[],.bool false]) W:=by
 have e:(Instr.typeAssert (.iface u v) 20 223 true).run Tryz.prog W=(if u=223 then(pure (Value.tuple #[v,.bool true]):Sem Value) else(do pure (Value.tuple #[<-zeroValue 223,.bool false]))).run Tryz.prog W:=by kernel_rfl
 rw[e,aK h];exact cE8 W
def cE7 (W:World):(do pure (Value.tuple #[<-zeroValue 259,.bool false]):Sem Value).run Tryz.prog W= .ok (.tuple #[.agg #[.int .i64 0],.bool false]) W:=by kernel_rfl
def fA0 (W:World)(v:Value):(Instr.typeAssert (.iface 259 v) 20 259 true).run Tryz.prog W= .ok (.tuple #[v,.bool true]) W:=by kernel_rfl
def fA1 (W:World)(u:TypeId)(v:Value)(h:u≠259):(Instr.typeAssert (.iface u v) 20 259 true).run Tryz.prog W= .ok (.tuple #[.agg #[.int .i64 0],.bool false]) W:=by
 have e:(Instr.typeAssert (.iface u v) 20 259 true).run Tryz.prog W=(if u=259 then(pure (Value.tuple #[v,.bool true]):Sem Value) else(do pure (Value.tuple #[<-zeroValue 259,.bool false]))).run Tryz.prog W:=by kernel_rfl
 rw[e,aK h];exact cE7 W
set_option maxHeartbeats 6400000 in
set_option maxRecDepth 100000 in
def eS7 (i a k m f t n:Int)(s:ByteArray)(w:World):Calls Tryz.prog 108 #[.agg #[.int .i64 i,.int .i64 a,.int .i64 k,.int .i64 m,.int .i64 f,.int .i64 t,.string s],.int .i64 n] w fun e w'=>e= .returned (.bool (M0 k n))/\Below w.heap.size w w':=by
 obtain⟨u,v,hu,hc⟩:∃u v,K0 k m= .iface u v/\(u=221/\k=1\/u=222/\k=2\/u=223/\k=3\/(u≠221/\u≠222/\u≠223)/\k≠1/\k≠2/\k≠3):=by unfold K0;by_cases k1:k=1;exact⟨_,_,aY k1,.inl ⟨rfl,k1⟩⟩;by_cases k2:k=2;rw[aK k1,aY k2];exact⟨_,_,rfl,.inr (.inl ⟨rfl,k2⟩)⟩;by_cases k3:k=3;rw[aK k1,aK k2,aY k3];exact⟨_,_,rfl,.inr (.inr (.inl ⟨rfl,k3⟩))⟩;rw[aK k1,aK k2,aK k3];split;exact⟨_,_,rfl,.inr (.inr (.inr ⟨by decide,k1,k2,k3⟩))⟩;exact⟨_,_,rfl,.inr (.inr (.inr ⟨by decide,k1,k2,k3⟩))⟩
 rcases hc with⟨rfl,rfl⟩|⟨rfl,rfl⟩|⟨rfl,rfl⟩|⟨⟨n1,n2,n3⟩,k1,k2,k3⟩
 ·go_enter Tryz.func108,Tryz.ntmps108
  go_wp2_with (go_at_call 155;refine(PS i a 1 m f t s _).mono ?_;rintro e w1 ⟨rfl,hB⟩;rw[hu];have h1:=fA5 w1 v)
  all_goals go_ret
  all_goals refine⟨by simp[M0],?_⟩
  all_goals exact((cZ _ w).alloc (dD _) _).trans (hB.mono (by simp))
 ·go_enter Tryz.func108,Tryz.ntmps108
  go_wp2_with (go_at_call 155;refine(PS i a 2 m f t s _).mono ?_;rintro e w1 ⟨rfl,hB⟩;rw[hu];have h1:=WG w1 222 v (by decide);have h2:=fA4 w1 v)
  all_goals go_ret
  all_goals refine⟨by simp[M0],?_⟩
  all_goals exact((cZ _ w).alloc (dD _) _).trans (hB.mono (by simp))
 ·go_enter Tryz.func108,Tryz.ntmps108
  go_wp2_with (go_at_call 155;refine(PS i a 3 m f t s _).mono ?_;rintro e w1 ⟨rfl,hB⟩;rw[hu];have h1:=WG w1 223 v (by decide);have h2:=cB5 w1 223 v (by decide);have h3:=fA2 w1 v)
  all_goals go_ret
  all_goals refine⟨by simp[M0],?_⟩
  all_goals exact((cZ _ w).alloc (dD _) _).trans (hB.mono (by simp))
 ·go_enter Tryz.func108,Tryz.ntmps108
  go_wp2_with (go_at_call 155;refine(PS i a k m f t s _).mono ?_;rintro e w1 ⟨rfl,hB⟩;rw[hu];have h1:=WG w1 u v n1;have h2:=cB5 w1 u v n2;have h3:=fA3 w1 u v n3)
  all_goals go_ret
  all_goals refine⟨by simp[M0,k1,k2,k3],?_⟩
  all_goals exact((cZ _ w).alloc (dD _) _).trans (hB.mono (by simp))
end Go.Proofs.YtdlpbedneamebaaGreatDoor
