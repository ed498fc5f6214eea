/-
Plain laws and walks: part of the proof of the last text.
-/
import Derived.Test.YtdlpbedneamebaaGreatDoorTS
import Derived.Test.YtdlpbedneamebaaGreatDoorTM
import Derived.Test.YtdlpbedneamebaaGreatDoorTEB
set_option linter.all false
namespace Go.Proofs.YtdlpbedneamebaaGreatDoor
open Go.VM Go.RowKit
def KY:Nat->Nat->List UInt8
 |0,_=>[]|n+1,u=>if u<10 then[UInt8.ofNat (48+u)] else KY n (u / 10)++[UInt8.ofNat (48+u % 10)]
def aE7:∀(n u:Nat),0<n->u<10 ^ n->KY n u=Lib.decDigits u
 |0,_,h,_=>absurd h (UE 0)
 |n+1,u,_,h=>by
  rw[Lib.decDigits,KY];by_cases hu:u<10;rw[aY hu,H2 hu];rw[aK hu,LL hu];have h2:u / 10<10 ^ n:=by rw[Nat.pow_succ] at h;exact Nat.div_lt_of_lt_mul (by omega)
  have hn:0<n:=by rcases X9 n with rfl|hn;simp at h;omega;exact hn
  rw[aE7 n (u / 10) hn h2]
def KC (n:Int):List UInt8:=if n<0 then 45::KY 20 n.natAbs else KY 20 n.toNat
def bO6 (n:Int)(h0: -9223372036854775808<=n)(h1:n<=9223372036854775807):KC n=Lib.itoa n:=by unfold KC Lib.itoa;rw[aE7 20 n.natAbs (by decide) (by omega),aE7 20 n.toNat (by decide) (by omega)]
def IK (l:List (List UInt8)):List UInt8:=l.flatMap fun s=>KC s.length++58::s
def bH3:∀(l:List (List UInt8)),(∀s∈l,s.length<=1000000)->IK l=sZ l
 |[],_=>rfl|s::l,h=>by have h1:=h s (dC ..);have ih:=bH3 l fun x hx=>h x (dL _ hx);simp only[IK,sZ,D5,Gi] at ih⊢;rw[ih,bO6 _ (by omega) (by omega)]
def V8:List V->Option (List bG)
 |[]=>some []| .a [.i .i64 a,.i .i64 n,.s c]::r=>(V8 r).map (⟨a,n,c⟩::·)|_=>none
def bM9:∀{ls:List V} {l:List bG},V8 ls=some l->ls=aB bG.v l
 |[],l,h=>by cases h;rfl|x::r,l,h=>by unfold V8 at h;split at h;rename_i he;cases he;rename_i a n c r' he;cases he;simp only[gY] at h;obtain⟨t,h1,rfl⟩:=h;rw[bM9 h1];rfl;cases h
def Vs:List V->Option (List aW)
 |[]=>some []| .a [.i .i64 a0,.i .i64 a1,.i .i64 a2,.i .i64 a3,.i .i64 a4,.i .i64 a5,.s k,.s t,.l ls,.i .u64 ch]::r=>(V8 ls).bind fun l=>(Vs r).map (⟨a0,a1,a2,a3,a4,a5,k,t,l,ch⟩::·)|_=>none
def bV4:∀{es:List V} {l:List aW},Vs es=some l->es=aB aW.v l
 |[],l,h=>by cases h;rfl|x::r,l,h=>by unfold Vs at h;split at h;rename_i he;cases he;rename_i he;cases he;simp only[bL,gY] at h;obtain⟨ls,h1,t,h2,rfl⟩:=h;rw[bV4 h2,bM9 h1];rfl;cases h
def ofX (xs:List V):Option V:=match xs with|[.l es,.i .i64 a]=>(Vs es).bind fun l=>if jok l=true then some (.i .i64 (oN a l)) else none|_=>none
def Zs (xs:List V):Option V:=match xs with|[.i .i64 n]=>if -9223372036854775808<=n/\n<=9223372036854775807 then some (.s (KC n)) else none|_=>none
def Y' (xs:List V):Option V:=match xs with|[.l ts]=>(Jf ts).bind fun l=>if l.length<=1000/\l.all (fun s=>decide (s.length<=1000000))=true then some (.s (IK l)) else none|_=>none
def KT:aU:=fun f xs=>if f=12 then ofX xs else if f=111 then Ms 61 3 32 xs else if f=165 then Y' xs else if f=203 then Zs xs else none
def bU3 {f:Nat}{xs:List V}{y:V}(h:KT f xs=some y):jG Tryz.prog f=true/\PF Tryz.prog f xs y:=by unfold KT at h;split at h;rename_i hf;subst hf;refine⟨by kernel_rfl,?_⟩;unfold ofX at h;split at h;simp only[bL] at h;obtain⟨l,hl,h⟩:=h;split at h;rename_i hj;cases h;rw[bV4 hl];exact bI6 hj;cases h;cases h;split at h;rename_i hf;subst hf;exact eW4 RF (t:=56) (tb:=4) (p1:=cp1) (p2:= #[]) (p3:= #[]) (p4:=cp4) (p5:=cp5) (zc:=[.i .i64 0,.i .i64 0,.s []]) Tryz.func111 (by kernel_rfl) (by kernel_rfl) (by kernel_rfl) (by kernel_rfl) (by kernel_rfl) (by kernel_rfl) (by kernel_rfl) (by kernel_rfl) (by decide) xs y h;split at h;rename_i hf;subst hf;refine⟨by kernel_rfl,?_⟩;unfold Y' at h;split at h;rename_i ts;simp only[bL] at h;obtain⟨l,hl,h⟩:=h;split at h;rename_i hc;cases h;refine dL3 ?_;unfold ZA;simp only[hl,aZ];rw[aY hc,bH3 l fun s hs=>by have:=eM.1 hc.2 s hs;simpa using this];cases h;cases h;split at h;rename_i hf;subst hf;refine⟨by kernel_rfl,?_⟩;unfold Zs at h;split at h;split at h;rename_i hc;cases h;rw[bO6 _ hc.1 hc.2];exact eE0 hc.1 hc.2;cases h;cases h;cases h
noncomputable abbrev O0:aU:=O KT
set_option maxRecDepth 100000 in
def YX:eL Tryz.prog O0:=SB (fun f fc h=>by
 unfold bJ at h;split at h;cases h;exact YE bX3 h) (fun f xs y h=>bU3 h) RF
end Go.Proofs.YtdlpbedneamebaaGreatDoor
namespace Go.Proofs.YtdlpbedneamebaaGreatDoor
open Go.VM Go.RowKit Go.Shelf
def fD9 (W:World)(b o:Nat)(x:cF):Prop:=
 W.cell? ⟨b,o,none⟩=some (.int .i64 x.id)/\W.cell? ⟨b,o+1,none⟩=some (.int .i64 x.account)/\W.cell? ⟨b,o+2,none⟩=some (.int .i64 x.kind)/\W.cell? ⟨b,o+3,none⟩=some (.int .i64 x.amount)/\W.cell? ⟨b,o+4,none⟩=some (.int .i64 x.from')/\W.cell? ⟨b,o+5,none⟩=some (.int .i64 x.to')/\W.cell? ⟨b,o+6,none⟩=some (.string ⟨x.source.toArray⟩)
def cE3 (W:World)(v:Value)(l:List cF):Prop:=(v= .slice none 0 0/\l=[])\/∃g c,v= .slice (some ⟨g,0,none⟩) l.length c/\g<W.heap.size/\∀k x,l[k]? =some x->fD9 W g (k*7) x
def Ge (s:Int)(x:cF):Int:=if x.kind=4 then wrap64 (s+x.amount) else s
def IF (l:List cF):Int:=l.foldl Ge 0
def dG9 (l:List cF)(k:Nat)(x:cF)(h:l[k]? =some x):IF (l.take (k+1))=Ge (IF (l.take k)) x:=by unfold IF;rw[UB,h,JL];rfl
set_option maxHeartbeats 2000000 in
set_option maxRecDepth 100000 in
def dG5 (l:List cF)(id d:Int)(sv:Value)(w:World)(hl:l.length<=1000)(h106:Calls Tryz.prog 106 #[sv,.int .i64 id,.int .i64 d] w fun e w'=>∃v,e= .returned v/\Below w.heap.size w w'/\cE3 w' v l):
  Calls Tryz.prog 157 #[sv,.int .i64 id,.int .i64 d] w fun e w'=>e= .returned (.int .i64 (IF l))/\Below w.heap.size w w':=by
 go_enter Tryz.func157,Tryz.ntmps157
 go_wp2_with (go_at_call 106;refine h106.mono ?_;rintro e w1 ⟨v,rfl,hB1,hrow⟩;obtain⟨a,c,hv⟩:∃a c,v= .slice a l.length c:=(by rcases hrow with⟨rfl,rfl⟩|⟨g,c,rfl,_⟩<;>exact⟨_,_,rfl⟩);subst hv)
 go_loopw [7,17] (fun s i wr=>∃k:Nat,k<=l.length/\i= .int .i64 k/\s= .int .i64 (IF (l.take k))/\Below w1.heap.size w1 wr)
  (fun _ i _=>l.length - (intOf i).toNat)
 case atStart=>exact⟨0,A6 _,rfl,rfl,cZ _ _⟩
 case round=>
  obtain⟨k,hk,rfl,rfl,hB⟩:=hrel;by_cases bE:k<l.length
  ·obtain⟨x,hx⟩:∃x,l[k]? =some x:=⟨_,eI bE⟩;rcases hrow with⟨_,rfl⟩|⟨g,c',hv,hg,hc⟩;cases bE;cases hv;obtain⟨c0,c1,c2,c3,c4,c5,c6⟩:=hc k x hx;have d0:=(hB.cell (p:=⟨g,k*7,none⟩) hg).trans c0;have d1:=(hB.cell (p:=⟨g,k*7+1,none⟩) hg).trans c1;have d2:=(hB.cell (p:=⟨g,k*7+2,none⟩) hg).trans c2;have d3:=(hB.cell (p:=⟨g,k*7+3,none⟩) hg).trans c3;have d4:=(hB.cell (p:=⟨g,k*7+4,none⟩) hg).trans c4;have d5:=(hB.cell (p:=⟨g,k*7+5,none⟩) hg).trans c5;have d6:=(hB.cell (p:=⟨g,k*7+6,none⟩) hg).trans c6;have fM:w1.heap.size<=wr.heap.size:=hB.size;obtain⟨u,y,hu,hk4⟩:∃u y,K0 x.kind x.amount= .iface u y/\(u=259/\x.kind=4/\y= .agg #[.int .i64 x.amount]\/u≠259/\x.kind≠4):=by
    unfold K0;by_cases k1:x.kind=1;exact⟨_,_,aY k1,.inr ⟨by decide,by omega⟩⟩;by_cases k2:x.kind=2;rw[aK k1,aY k2];exact⟨_,_,rfl,.inr ⟨by decide,by omega⟩⟩;by_cases k3:x.kind=3;rw[aK k1,aK k2,aY k3];exact⟨_,_,rfl,.inr ⟨by decide,by omega⟩⟩;by_cases k4:x.kind=4;rw[aK k1,aK k2,aK k3,aY k4];exact⟨_,_,rfl,.inl ⟨rfl,k4,rfl⟩⟩;rw[aK k1,aK k2,aK k3,aK k4];exact⟨_,_,rfl,.inr ⟨by decide,k4⟩⟩
   have Cg:=dG9 l k x hx;rcases hk4 with⟨rfl,k4,rfl⟩|⟨bM,k4⟩
   ·unfold Ge at Cg;rw[aY k4] at Cg;rw[k4] at hu
    go_wp2_with (go_at_call 155;refine(PS x.id x.account 4 x.amount x.from' x.to' ⟨x.source.toArray⟩ _).mono ?_;rintro e w2 ⟨rfl,BC⟩;rw[hu];have h1:=fA0 w2 (.agg #[.int .i64 x.amount]))
    refine⟨⟨k+1,bE,by simp,by rw[Cg],?_⟩,by simp[intOf];omega⟩;have zI:=(hB.alloc fM _).trans (BC.mono (by simp;omega));exact zI.alloc zI.size _
   ·unfold Ge at Cg;rw[aK k4] at Cg
    go_wp2_with (go_at_call 155;refine(PS x.id x.account x.kind x.amount x.from' x.to' ⟨x.source.toArray⟩ _).mono ?_;rintro e w2 ⟨rfl,BC⟩;rw[hu];have h1:=fA1 w2 u y bM)
    refine⟨⟨k+1,bE,by simp,by rw[Cg],?_⟩,by simp[intOf];omega⟩;have zI:=(hB.alloc fM _).trans (BC.mono (by simp;omega));exact zI.alloc zI.size _
  ·obtain rfl:k=l.length:=by omega
   go_wp2
   go_ret
   rw[D0];exact⟨rfl,hB1.trans (hB.mono hB1.size)⟩
def vM (l:List cF)(id d:Int):List cF:=l.filter fun x=>decide (x.account=id)&&decide (x.from'<=d)&&decide (d<=x.to')
def cM8 {X:aU}(l:List cF)(id d:Int)(hl:l.length<=1000):O X 106 [.l (aB cF.v l),.i .i64 id,.i .i64 d]=some (.ow 156 (aB cF.v (vM l id d))):=by
 have:∃r,bP (O X) [1,2,7,10,11,12] BR [(1,.i .i64 id),(2,.i .i64 d),(7,.ow 156 (aB cF.v [])),(10,.l (aB cF.v l)),(11,.i .i64 l.length),(12,.i .i64 ((0:Nat):Int))]=some r/\r=(.e 0,[(7,.ow 156 (aB cF.v (vM l id d)))]):=by
  refine dW (fun i aA=>aA=[(1,.i .i64 id),(2,.i .i64 d),(7,.ow 156 (aB cF.v (vM (l.take i) id d))),(10,.l (aB cF.v l)),(11,.i .i64 l.length),(12,.i .i64 (i:Int))]) l.length _ (fun i aA hI=> ?_) (fun i aA hi hI=> ?_) (fun aA hI=> ?_) l.length 0 _ (by omega) rfl;subst hI;simp;subst hI;left;have hw:=bC (i+1) (by omega);have bT:(aB cF.v (vM (l.take i) id d)).length<=1000:=by rw[uJ];have h1:(vM (l.take i) id d).length<=(l.take i).length:=LG ..;rw[gO] at h1;omega
  have hb:((aB cF.v (vM (l.take i) id d)).length+1)*64<=140737488355328:=by omega
  have e1:aB cF.v (vM (l.take (i+1)) id d)=if l[i].account=id/\l[i].from'<=d/\d<=l[i].to' then aB cF.v (vM (l.take i) id d)++[l[i].v] else aB cF.v (vM (l.take i) id d):=by
   unfold vM;rw[H1 hi,List.filter_append];split;rename_i h;simp[h.1,h.2.1,h.2.2,aB];rename_i h;have:(decide (l[i].account=id)&&decide (l[i].from'<=d)&&decide (d<=l[i].to'))=false:=by by_cases c1:l[i].account=id;by_cases c2:l[i].from'<=d;have c3:¬d<=l[i].to':=fun h'=>h ⟨c1,c2,h'⟩;simp[c3];simp[c2];simp[c1]
   simp[this]
  refine⟨_,?_,rfl⟩;rw[e1];generalize aB cF.v (vM (l.take i) id d)=U at hb⊢;by_cases c1:l[i].account=id;have c1':(l[i].account=id)=True:=yT c1;by_cases c2:l[i].from'<=d;by_cases c3:d<=l[i].to';simp[BR,hi,hw,c1',c2,c3,hb];simp[BR,hi,hw,c1',c2,c3];simp[BR,hi,hw,c1',c2];simp[BR,hi,hw,c1];subst hI;refine⟨_,?_,?_,rfl⟩;rw[D0];simp[BR];simp
 obtain⟨r,hr,rfl⟩:=this;have mQ:bP (O X) [1,2,7,10,11,12] BR [(1,.i .i64 id),(2,.i .i64 d),(7,.ow 156 []),(10,.l (aB cF.v l)),(11,.i .i64 l.length),(12,.i .i64 0)]=some (.e 0,[(7,.ow 156 (aB cF.v (vM l id d)))]):=by simpa using hr
 exact aI (fc:=Sn) aY0 rfl rfl (by simp[Sn,bA,mQ])
def KS:∀(l:List cF) (k:Nat) (x:cF) (j:Nat),l[k]? =some x->j<7->(cL (aB cF.v l))[k*7+j]? =x.cells[j]?
 |[],k,x,j,h,_=>by simp at h|y::l,0,x,j,h,hj=>by simp at h;subst h;rw[BI,tC,BU (by show 0*7+j<7;omega)];simp|y::l,k+1,x,j,h,hj=>by have ih:=KS l k x j (by simpa using h) hj;rw[BI,tC,D6 (by show 7<=(k+1)*7+j;omega)];rw[show(k+1)*7+j - (y.v).cells.length=k*7+j by show(k+1)*7+j - 7=_;omega];exact ih
def eI9 (l:List cF):(cL (aB cF.v l)).length=l.length*7:=by induction l with|nil=>rfl|cons y l ih=>rw[BI,tC,kH,ih];show 7+l.length*7=(l.length+1)*7;omega
def eZ1 {S:Nat->Prop}{w:World}{aD:Nat}{v:Value}{l:List cF}(h:GI Tryz.prog S w aD 156 (aB cF.v l) v):cE3 w v l:=by
 obtain⟨vals,cA,hk,h1,hr⟩:=h;have hc:Tryz.prog.cellsOf 156=7:=by kernel_rfl
 rw[hc,uJ] at cA;rcases cA.2 with⟨rfl,h0⟩|⟨g,cap,cur,rfl,hb,hg,wP,I3,dA,Br⟩;exact .inl ⟨rfl,pL h0⟩;refine .inr ⟨g,cap,rfl,(j6.1 hg).1,fun k x hx=> ?_⟩;have vF:k<l.length:=(fE.1 hx).1;have cell:∀(j:Nat) (y:V),j<7->x.cells[j]? =some y->y.uniq=true->w.cell? ⟨g,k*7+j,none⟩=some y.toVal:=fun j y hj hy hu=>by
  have bE:k*7+j<vals.length:=by rw[hr.1,eI9];omega
  have hv:=hr.2 (k*7+j) vals[k*7+j] y (eI bE) (by rw[KS l k x j hx hj];exact hy);have he:=hv.val hu;have dG:w.cell? ⟨g,k*7+j,none⟩=cur[k*7+j]? :=by simp[World.cell?,hg]
  have EH:cur[k*7+j]? =some vals[k*7+j]:=by
   have h2:(cur.toList.take (l.length*7))[k*7+j]? =some vals[k*7+j]:=by rw[Br];exact eI bE
   rw[QE (by omega)] at h2;simpa using h2
  rw[dG,EH,he]
 have h0:=cell 0 _ (by omega) rfl rfl;rw[EZ] at h0;exact⟨h0,cell 1 _ (by omega) rfl rfl,cell 2 _ (by omega) rfl rfl,cell 3 _ (by omega) rfl rfl,cell 4 _ (by omega) rfl rfl,cell 5 _ (by omega) rfl rfl,cell 6 _ (by omega) rfl rfl⟩
def eS8 (x:cF)(n:Int):PF Tryz.prog 108 [x.v,.i .i64 n] (.b (M0 x.kind n)):=by intro S w vs hS _ hr;obtain⟨v,rfl,hv⟩:=cB8 hr;have dZ:=hv.val rfl;subst dZ;exact Jt (u:= .bool (M0 x.kind n)) hS (fun w'=> .b _) (eS7 x.id x.account x.kind x.amount x.from' x.to' n ⟨x.source.toArray⟩ w)
def fA7 {S:Nat->Prop}{w:World}{vs:List Value}{x:V}{n m:Int}(h:aX S w vs [x,.i .i64 n,.i .i64 m]):∃v,vs=[v,.int .i64 n,.int .i64 m]/\aP S w v x:=by
 match vs,h with|[v,u,u'],h=>have h1:=h.tail.head;have h2:=h.tail.tail.head;cases h1;cases h2;exact⟨v,rfl,h.head⟩|[],h=>exact absurd h.1 (by simp)|[_],h=>exact absurd h.1 (by simp)|[_,_],h=>exact absurd h.1 (by simp)|_::_::_::_::_,h=>exact absurd h.1 (by simp)
def dG6 (l:List cF)(id d:Int)(hl:l.length<=1000):PF Tryz.prog 157 [.l (aB cF.v l),.i .i64 id,.i .i64 d] (.i .i64 (IF (vM l id d))):=by intro S w vs hS hG hr;have h106:=(YX.2 106 _ _ (cM8 (X:=KT) l id d hl)).2 S w vs hS hG hr;obtain⟨v,rfl,hv⟩:=fA7 hr;have hal:(vM l id d).length<=1000:=fG (LG ..) hl;exact Jt (u:= .int .i64 (IF (vM l id d))) hS (fun w'=> .i _ _) (dG5 (vM l id d) id d v w hal (h106.mono fun e w' ⟨u,he,hB,S',_,_,eA⟩=>⟨u,he,hB,eZ1 eA.1⟩))
end Go.Proofs.YtdlpbedneamebaaGreatDoor
namespace Go.Proofs.YtdlpbedneamebaaGreatDoor
open Go.VM
def bU5:zP:=⟨[⟨0,36000⟩],false,1,6,false⟩
def qC:cD:=⟨[⟨[69,85,82],2⟩],[⟨[104,111,109,101],[],[]⟩],[⟨101,0,1,[99,97,115,104]⟩,⟨102,0,1,[99,108,101,97,114,105,110,103]⟩,⟨103,0,1,[108,111,97,110,115]⟩,⟨201,0,2,[100,101,112,111,115,105,116,115]⟩,⟨202,0,2,[111,116,104,101,114]⟩,⟨301,0,4,[105,110,99,111,109,101]⟩,⟨401,0,5,[101,120,112,101,110,115,101]⟩],⟨101,201,401,301,301,202,102,103,301,301,202,401,401,301⟩,[⟨[103,105,114,111],[69,85,82],[104,111,109,101],9000,1,500,0,bU5,bU5,[],[]⟩],[⟨1000,9678,0,0,[97,110,110,97],[103,105,114,111],[67,66,48,48,48,48,49,48,48,48,51,51]⟩,⟨1001,9678,0,0,[98,101,110],[103,105,114,111],[67,66,48,48,48,48,49,48,48,49,51,48]⟩],[],[],[]⟩
def bU4:List bG:=[⟨101,100000,[69,85,82]⟩,⟨1000,-100000,[69,85,82]⟩]
def Ia:aW:=⟨0,9678,9678,1,0,0,[107],[],bU4,0⟩
def AR:aW:=⟨1,9678,9678,1,0,0,[107],[],bU4,10051695697490119444⟩
def a22:O0 22 []=some qC.v:=Gc (k:=60) 12 22 [] _ (by kernel_rfl)
def a24:O0 24 [Ia.v]=some (.i .i64 0):=Gc (k:=60) 12 24 _ _ (by kernel_rfl)
def a25:O0 25 [.l (aB aW.v qC.journal),.s Ia.key]=some (.t [.a HU,.b false]):=Gc (k:=60) 12 25 _ _ (by kernel_rfl)
def a26:O0 26 [qC.v,Ia.v]=some (.i .i64 0):=Gc (k:=60) 12 26 _ _ (by kernel_rfl)
def a27:O0 27 [qC.v,Ia.v]=some (.i .i64 0):=Gc (k:=60) 12 27 _ _ (by kernel_rfl)
def a28:O0 28 [.l (aB aW.v qC.journal),Ia.v]=some (.t [.ow 59 [AR.v],.i .i64 0]):=Gc (k:=100) 12 28 _ _ (by kernel_rfl)
def a12:O0 12 [.l [AR.v],.i .i64 1000]=some (.i .i64 100000):=Gc (k:=60) 12 12 _ _ (by kernel_rfl)
def a13:O0 13 [.a (DQ qC [AR.v]),.i .i64 1000,.i .i64 9678]=some (.b true):=Gc (k:=60) 12 13 _ _ (by kernel_rfl)
def dK3:PF Tryz.prog 11 [qC.v,Ia.v] (.t [.a (DQ qC [AR.v]),.i .i64 0]):=bG5 YX qC Ia [AR.v] a24 a25 a26 a27 a28 rfl (by decide)
end Go.Proofs.YtdlpbedneamebaaGreatDoor
namespace Go.Proofs.YtdlpbedneamebaaGreatDoor
open Go.VM
open Classical in
noncomputable def Yw (xs:List V):Option V:=if xs=[qC.v,Ia.v] then some (.t [.a (DQ qC [AR.v]),.i .i64 0]) else none
noncomputable def Un (f:Nat):Option aQ:=if f=10 then some Sp else none
noncomputable def Vr:aU:=fun f xs=>if f=11 then Yw xs else O0 f xs
noncomputable def OB:aU:=nE Un Vr
def dC2:eL Tryz.prog OB:=by refine SB (fun f fc h=> ?_) (fun f xs y h=> ?_) RF;unfold Un at h;split at h;rename_i he;subst he;cases h;exact⟨_,Tryz.func10,bX2,bI3⟩;cases h;unfold Vr at h;split at h;rename_i he;subst he;unfold Yw at h;split at h;rename_i hx;cases h;subst hx;exact⟨by kernel_rfl,dK3⟩;cases h;exact YX.2 f xs y h
def O8 {f:Nat}{xs:List V}{y:V}(ht:Un f=none)(uG:f≠11)(h:O0 f xs=some y):OB f xs=some y:=vJ ht (by rw[Vr,aK uG];exact h)
def dM1 {f:Nat}{fc:aQ}(ht:Un f=some fc){args:List V}{y:V}(hl:args.length=fc.np)(ha:args.all V.arg=true)(h:wH fc.res (bI OB fc.body (kR 0 args))=some y):OB f args=some y:=VM.run ht hl ha h
def c22:OB 22 []=some qC.v:=O8 rfl (by decide) a22
def WZ:OB 12 [.l [AR.v],.i .i64 1000]=some (.i .i64 100000):=O8 rfl (by decide) a12
def WY:OB 13 [.a (DQ qC [AR.v]),.i .i64 1000,.i .i64 9678]=some (.b true):=O8 rfl (by decide) a13
def W4:OB 11 [qC.v,Ia.v]=some (.t [.a (DQ qC [AR.v]),.i .i64 0]):=by refine vJ rfl ?_;rw[Vr,aY rfl,Yw,aY rfl]
set_option maxHeartbeats 4000000 in
def dX7:OB 10 []=some (.b true):=by
 refine dM1 (fc:=Sp) rfl rfl rfl ?_;have h22:=c22;have uG:OB 11 [.a qC.cells,.a [.i .i64 0,.i .i64 9678,.i .i64 9678,.i .i64 1,.i .i64 0,.i .i64 0,.s [107],.s [],.l [.a [.i .i64 101,.i .i64 100000,.s [69,85,82]],.a [.i .i64 1000,.i .i64 (-100000),.s [69,85,82]]],.i .u64 0]]=some (.t [.a (DQ qC [AR.v]),.i .i64 0]):=W4;have kF:=WZ;have qS:=WY;have hv:qC.v= .a qC.cells:=rfl;rw[hv] at h22;have bT:qC.cells.length=22:=rfl;have dG:(∀y∈qC.cells,y.cell=true)=True:=by simp
 have Vg:(DQ qC [AR.v]).length=22:=rfl;have bR1:(∀y∈DQ qC [AR.v],y.cell=true)=True:=by simp
 have k9:(DQ qC [AR.v])[19]? =some (.l [AR.v]):=rfl;generalize qC.cells=B at h22 uG bT dG;generalize DQ qC [AR.v]=J at uG qS Vg bR1 k9;generalize AR.v=en at kF k9;have fQ:J[19]'(by omega)= .l [en]:=by rw[eI (by omega)] at k9;exact uR k9
 simp(config := { maxSteps := 2000000 }) [Sp,h22,uG,kF,qS,bT,dG,Vg,bR1,fQ]
end Go.Proofs.YtdlpbedneamebaaGreatDoor
