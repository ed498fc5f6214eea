/-
Plain laws and walks: part of the proof of the last text.
-/
import Derived.Test.YtdlpbedneamebaaGreatDoorTKB
import Derived.Test.YtdlpbedneamebaaGreatDoorDayP
import Derived.Test.YtdlpbedneamebaaGreatDoorWid
import Derived.Test.YtdlpbedneamebaaGreatDoorTJB
import Derived.Test.YtdlpbedneamebaaGreatDoorTDB
import Derived.Test.YtdlpbedneamebaaGreatDoorTMB
import Derived.Test.YtdlpbedneamebaaGreatDoorSndS
import Derived.LaidMore
import Derived.Stop.Joined
set_option linter.all false
namespace Go.Proofs.YtdlpbedneamebaaGreatDoor
open Go.VM Go.RowKit
def Qw {S:Nat->Prop}{w:World}:∀{xs:List V} {vs:List Value},aX S w vs xs->(∀x∈xs,x.uniq=true)->vs=xs.map V.toVal
 |[],[],_,_=>rfl|[],_::_,h,_=>absurd h.1 (by simp)|_::_,[],h,_=>absurd h.1 (by simp)|x::xs,v::vs,h,hx=>by rw[h.head.val (hx x (dC ..)),Qw h.tail fun y hy=>hx y (dL _ hy)];rfl
def Rn {f:FuncId}{xs:List V}{y:V}{u:Value}(hx:∀x∈xs,x.uniq=true)(hy:∀(S:Nat->Prop) (w':World) (n:Nat),mJ Tryz.prog S w' n u y)(h:∀w,Calls Tryz.prog f (xs.map V.toVal).toArray w fun e w'=>e= .returned u/\Below w.heap.size w w'):PF Tryz.prog f xs y:=by intro S w vs hS _ hr;rw[Qw hr hx];exact Jt hS (fun w'=>hy S w' _) (h w)
def VE {S:Nat->Prop}{w:World}{n:Nat}{u v:Value}{x y:V}(hu:fL Tryz.prog S w n u x)(hv:fL Tryz.prog S w n v y)(ox:x.isOwn=false)(oy:y.isOwn=false):mJ Tryz.prog S w n (.tuple #[u,v]) (.t [x,y]):=by refine⟨[u,v],rfl,rfl,fun j a b ha hb=> ?_,fun i j a a' b b' g _ _ _ hb _ ho _=> ?_⟩;rcases j with _|_|j;simp at ha hb;subst ha;subst hb;exact hu;simp at ha hb;subst ha;subst hb;exact hv;simp at ha;rcases i with _|_|i;simp at hb;subst hb;rw[ox] at ho;cases ho;simp at hb;subst hb;rw[oy] at ho;cases ho;simp at hb
def VF {S:Nat->Prop}{w:World}(k k':IntKind)(h l:Int):aP S w (.agg #[.int k h,.int k' l]) (.a [.i k h,.i k' l]):=by refine .a #[.int k h,.int k' l] [.i k h,.i k' l] rfl (fun x hx=> ?_) fun j u x hu hx=> ?_;simp only[eP,xG,xH] at hx;rcases hx with rfl|rfl<;>rfl;rcases j with _|_|j;simp at hu hx;subst hu;subst hx;exact .i _ _;simp at hu hx;subst hu;subst hx;exact .i _ _;simp at hu
def cN1 (op a b:Int)(hk:GG (op,a,b)):PF Tryz.prog 257 [.i .i64 op,.i .i64 a,.i .i64 b] (.t [.i .i64 (wF op a b).1,.b (wF op a b).2]):=
 Rn (by intro x hx;simp only[eP,xG,xH] at hx;rcases hx with rfl|rfl|rfl<;>rfl) (fun S w n=>VE (aP.i .i64 _) (aP.b _) rfl rfl) fun w=>cN0 op a b hk w
def dS0 (h l:Int):PF Tryz.prog 296 [.a [.i .i64 h,.i .u64 l]] (.a [.i .i64 (bJ5 h l),.i .u64 (ZU l)]):=
 Rn (by intro x hx;simp only[eP,xG,xH] at hx;subst hx;rfl) (fun S w n=>VF ..) fun w=>dR9 h l w
def fC6 (a b c d:Int)(hb:0<=b)(hd:0<=d):PF Tryz.prog 262 [.a [.i .i64 a,.i .u64 b],.a [.i .i64 c,.i .u64 d]] (.t [.a [.i .i64 (addR a b c d).1,.i .u64 (addR a b c d).2.1],.i .i64 (addR a b c d).2.2]):=
 Rn (by intro x hx;simp only[eP,xG,xH] at hx;rcases hx with rfl|rfl<;>rfl) (fun S w n=>VE (VF ..) (aP.i .i64 _) rfl rfl) fun w=>fC5 a b c d hb hd w
def cZ0 (a b c d:Int)(hb:0<=b)(hd:0<=d):PF Tryz.prog 260 [.a [.i .i64 a,.i .u64 b],.a [.i .i64 c,.i .u64 d]] (.t [.a [.i .i64 (G9 a b c d).1,.i .u64 (G9 a b c d).2.1],.i .i64 (G9 a b c d).2.2]):=
 Rn (by intro x hx;simp only[eP,xG,xH] at hx;rcases hx with rfl|rfl<;>rfl) (fun S w n=>VE (VF ..) (aP.i .i64 _) rfl rfl) fun w=>cY9 a b c d hb hd w
def cP3 (a b n m:Int)(hm:0<=m):PF Tryz.prog 318 [.a [.i .u64 a,.i .u64 b],.i .u64 n,.i .u64 m] (.t [.a [.i .u64 (aV4 a b n m),.i .u64 (aV3 b n m)],.b (Ug a b n m)]):=
 Rn (by intro x hx;simp only[eP,xG,xH] at hx;rcases hx with rfl|rfl|rfl<;>rfl) (fun S w n=>VE (VF ..) (aP.b _) rfl rfl) fun w=>cP2 a b n m hm w
def XJ (x:Int):cG (x % 18446744073709551616):=⟨Ti _ (by decide),Th _ (by decide)⟩
def dS1 (l:Int):cG (ZU l):=XJ _
def fC8 (a b c d:Int):cG (addR a b c d).2.1:=by unfold addR;split;exact⟨by decide,by decide⟩;exact XJ _
def cZ2 (a b c d:Int):cG (G9 a b c d).2.1:=by unfold G9;split;exact⟨by decide,by decide⟩;unfold cG;simp only;omega
def dG8 {s:Int}{x:cF}{k:Nat}(hk:k<=64)(h0:0<=s)(h1:s<=k*1000000000000)(hx:0<=x.amount/\x.amount<=1000000000000):0<=Ge s x/\Ge s x<=(k+1:Nat)*1000000000000:=by unfold Ge;split;rw[show wrap64 (s+x.amount)=s+x.amount from by unfold wrap64;omega];omega;omega
def dH1 (l:List cF):∀(k:Nat) (s:Int),k+l.length<=64->(∀x∈l,0<=x.amount/\x.amount<=1000000000000)->0<=s->s<=k*1000000000000->0<=l.foldl Ge s/\l.foldl Ge s<=64000000000000:=by induction l with|nil=>intro k s hk _ h0 h1;rw[List.foldl_nil];rw[vR] at hk;exact⟨h0,by omega⟩|cons x r ih=>intro k s hk hx h0 h1;rw[fY] at hk;have h:=dG8 (k:=k) (by omega) h0 h1 (hx x (dC ..));rw[uO];exact ih (k+1) (Ge s x) (by omega) (fun y hy=>hx y (dL _ hy)) h.1 h.2
def dH0 (l:List cF)(id d:Int)(hl:l.length<=64)(hx:∀x∈l,0<=x.amount/\x.amount<=1000000000000):0<=IF (vM l id d)/\IF (vM l id d)<=64000000000000:=by have wP:(vM l id d).length<=l.length:=LG ..;exact dH1 (vM l id d) 0 0 (by omega) (fun x h=>hx x (vS.1 h).1) (by omega) (by omega)
def bW8 (fr to:Int):∀(m:List (aW×Int)) (l:List Int),(m.foldl (aF2 fr to) l).length=l.length
 |[],_=>rfl|x::r,l=>by rw[uO,bW8 fr to r];unfold aF2;split<;>simp
def eT5 (a fr to:Int)(l:List aW):(SE a fr to l).length<=100000:=by unfold SE;split;rename_i h;rw[aF1];unfold WA;rw[bW8,List.length_replicate];unfold KZ at h;omega;simp
def zR (f:Nat)(xs:List V)(y:V):Prop:=
 if f=12 then∃(j:List aW) (id:Int),xs=[.l (aB aW.v j),.i .i64 id]/\y= .i .i64 (oN id j)
 else if f=108 then∃t:Bool,y= .b t
 else if f=157 then∃s:Int,y= .i .i64 s/\0<=s/\s<=64000000000000
 else if f=190 then∃l:List Int,y= .ow 3 (bQ l)/\l.length<=100000
 else if f=192 then∃a b:Int,y= .t [.i .i64 a,.i .i64 b]
 else if f=257 then∃op a b:Int,xs=[.i .i64 op,.i .i64 a,.i .i64 b]/\y= .t [.i .i64 (wF op a b).1,.b (wF op a b).2]
 else if f=260\/f=262 then∃h l e:Int,y= .t [.a [.i .i64 h,.i .u64 l],.i .i64 e]/\cG l
 else if f=296 then∃h l:Int,y= .a [.i .i64 h,.i .u64 l]/\cG l
 else if f=318 then∃(h l:Int) (t:Bool),y= .t [.a [.i .u64 h,.i .u64 l],.b t]/\cG h/\cG l
 else False
def cB3 {xs:List V}{y:V}:zR 12 xs y↔∃(j:List aW) (id:Int),xs=[.l (aB aW.v j),.i .i64 id]/\y= .i .i64 (oN id j):=GM
def cB4 {xs:List V}{y:V}:zR 108 xs y↔∃t:Bool,y= .b t:=GM
def cB2 {xs:List V}{y:V}:zR 157 xs y↔∃s:Int,y= .i .i64 s/\0<=s/\s<=64000000000000:=GM
def cB1 {xs:List V}{y:V}:zR 190 xs y↔∃l:List Int,y= .ow 3 (bQ l)/\l.length<=100000:=GM
def cB0 {xs:List V}{y:V}:zR 192 xs y↔∃a b:Int,y= .t [.i .i64 a,.i .i64 b]:=GM
def cA9 {xs:List V}{y:V}:zR 257 xs y↔∃op a b:Int,xs=[.i .i64 op,.i .i64 a,.i .i64 b]/\y= .t [.i .i64 (wF op a b).1,.b (wF op a b).2]:=GM
def cA8 {xs:List V}{y:V}:zR 260 xs y↔∃h l e:Int,y= .t [.a [.i .i64 h,.i .u64 l],.i .i64 e]/\cG l:=GM
def cA7 {xs:List V}{y:V}:zR 262 xs y↔∃h l e:Int,y= .t [.a [.i .i64 h,.i .u64 l],.i .i64 e]/\cG l:=GM
def cA6 {xs:List V}{y:V}:zR 296 xs y↔∃h l:Int,y= .a [.i .i64 h,.i .u64 l]/\cG l:=GM
def cA5 {xs:List V}{y:V}:zR 318 xs y↔∃(h l:Int) (t:Bool),y= .t [.a [.i .u64 h,.i .u64 l],.b t]/\cG h/\cG l:=GM
open Classical in
noncomputable def O4 (f:Nat)(xs:List V):Option V:=if h:∃y,PF Tryz.prog f xs y/\zR f xs y then some (Classical.choose h) else none
def dK5 {f:Nat}{xs:List V}{y:V}(h:O4 f xs=some y):PF Tryz.prog f xs y/\zR f xs y:=by unfold O4 at h;split at h;rename_i hx;cases h;exact EV hx;cases h
def Gh {f:Nat}{xs:List V}{y:V}(h:PF Tryz.prog f xs y)(ha:zR f xs y):∃y',O4 f xs=some y'/\zR f xs y':=by have hx:∃y,PF Tryz.prog f xs y/\zR f xs y:=⟨y,h,ha⟩;refine⟨Classical.choose hx,by unfold O4;rw[H2 hx],(EV hx).2⟩
def bX7 (xs:List V):Option V:=match xs with|[.s s,.s [c]]=>some (.i .i64 (s.count c:Nat))|_=>none
noncomputable def zL:aU:=fun f xs=>if f=292 then bX7 xs else if f=111\/f=165\/f=203 then KT f xs else O4 f xs
def eZ8 {f:Nat}{xs:List V}{y:V}(h:zR f xs y):jG Tryz.prog f=true:=by by_cases h1:f=12;subst h1;kernel_rfl;by_cases h2:f=108;subst h2;kernel_rfl;by_cases h3:f=157;subst h3;kernel_rfl;by_cases h4:f=190;subst h4;kernel_rfl;by_cases h5:f=192;subst h5;kernel_rfl;by_cases h6:f=257;subst h6;kernel_rfl;by_cases h7:f=260;subst h7;kernel_rfl;by_cases h8:f=262;subst h8;kernel_rfl;by_cases h9:f=296;subst h9;kernel_rfl;by_cases oT:f=318;subst oT;kernel_rfl;exfalso;simp[zR,h1,h2,h3,h4,h5,h6,h7,h8,h9,oT] at h
def eP2 {f:Nat}{xs:List V}{y:V}(h:zL f xs=some y):jG Tryz.prog f=true/\PF Tryz.prog f xs y:=by unfold zL at h;split at h;rename_i hf;subst hf;refine⟨by kernel_rfl,?_⟩;unfold bX7 at h;split at h;cases h;exact eV3 _ _;cases h;split at h;exact bU3 h;obtain⟨h1,h2⟩:=dK5 h;exact⟨eZ8 h2,h1⟩
def bB0:eL Tryz.prog (O zL):=SB (fun f fc h=>by
 unfold bJ at h;split at h;cases h;exact YE bX3 h) (fun f xs y h=>eP2 h) RF
def HB {f:Nat}{xs:List V}(h1:f≠292)(h2:¬(f=111\/f=165\/f=203)):zL f xs=O4 f xs:=by rw[zL,aK h1,aK h2]
def cF3 (j:List aW)(id:Int)(hj:jok j=true):zL 12 [.l (aB aW.v j),.i .i64 id]=some (.i .i64 (oN id j)):=by rw[HB (by decide) (by decide)];obtain⟨y,h,ha⟩:=Gh (bI6 (a:=id) hj) (cB3.2 ⟨j,id,rfl,rfl⟩);obtain⟨j',id',hx,rfl⟩:=cB3.1 ha;rw[gG,gG] at hx;have e1:=(aW.enc (l:=j)).1 (V.l.inj hx.1);have e2:=V.i.inj hx.2.1;rw[<-e1,<-e2.2] at h;exact h
def eW8:CK zL where
 sub a b c d hb hd:=by rw[HB (by decide) (by decide)];obtain⟨y,h,ha⟩:=Gh (cZ0 a b c d hb.1 hd.1) (cA8.2 ⟨_,_,_,rfl,cZ2 a b c d⟩);obtain⟨h',l,e,rfl,p⟩:=cA8.1 ha;exact⟨h',l,e,h,p⟩
 add a b c d hb hd:=by rw[HB (by decide) (by decide)];obtain⟨y,h,ha⟩:=Gh (fC6 a b c d hb.1 hd.1) (cA7.2 ⟨_,_,_,rfl,fC8 a b c d⟩);obtain⟨h',l,e,rfl,p⟩:=cA7.1 ha;exact⟨h',l,e,h,p⟩
 neg h l:=by rw[HB (by decide) (by decide)];obtain⟨y,h1,ha⟩:=Gh (dS0 h l) (cA6.2 ⟨_,_,rfl,dS1 l⟩);obtain⟨h',l',rfl,p⟩:=cA6.1 ha;exact⟨h',l',h1,p⟩
 tim a b:=by rw[HB (by decide) (by decide)];obtain⟨y,h1,ha⟩:=Gh (cP3 a b 1 1 (by decide)) (cA5.2 ⟨_,_,_,rfl,XJ _,XJ _⟩);obtain⟨h',l',t,rfl,p,q⟩:=cA5.1 ha;exact⟨h',l',t,h1,p,q⟩
def cN2:NP zL:=fun op a b h1 h2 h3 h4 h5 h6=>by
 rw[HB (by decide) (by decide)];have hw:∀n:Int,0<=n->n<=100->(Lit.int .i64 n).wf=true:=fun n h h'=>by
  have e:wrap64 n=n:=by unfold wrap64;omega
  rw[<-e];exact wrap64_wf n
 have hk:GG (op,a,b):=⟨hw op h1 (by omega),hw a (by omega) (by omega),hw b (by omega) (by omega)⟩;obtain⟨y,h,ha⟩:=Gh (cN1 op a b hk) (cA9.2 ⟨op,a,b,rfl,rfl⟩);obtain⟨eX,a',b',hx,rfl⟩:=cA9.1 ha;rw[gG,gG,gG] at hx;obtain rfl:=(V.i.inj hx.1).2;obtain rfl:=(V.i.inj hx.2.1).2;obtain rfl:=(V.i.inj hx.2.2.1).2;refine⟨_,_,h,fun hu=> ?_⟩;unfold wF at hu⊢;by_cases c1:op=10\/op=11;exact⟨fun h=>by omega,fun h=>by omega⟩;rw[aK c1] at hu⊢;by_cases c2:op=12\/op=13;exact⟨fun h=>by omega,fun h=>by omega⟩;rw[aK c2] at hu⊢;by_cases c3:op=14\/op=15;rw[aY c3] at hu;simp only[uS] at hu;exact⟨fun _=>⟨hu.2,by omega⟩,fun h=>by omega⟩;rw[aK c3] at hu⊢;by_cases c4:op=17\/op=18;rw[aY c4] at hu⊢;simp only[uS] at hu;exact⟨fun h=>by omega,fun _=>hu.2⟩;exact⟨fun h=>absurd h c3,fun h=>absurd h c4⟩
def aE6:∀(n u k:Nat),0<k->u<10 ^ k->(KY n u).length<=k
 |0,_,_,_,_=>by simp[KY]
 |n+1,u,k,hk,h=>by
  rw[KY];by_cases hu:u<10;rw[aY hu];exact hk;rw[aK hu];have h1:1<k:=by rcases k with _|_|k;omega;simp at h;omega;omega
  obtain⟨k',rfl⟩:∃k',k=k'+1:=⟨k - 1,by omega⟩;have h2:u / 10<10 ^ k':=by rw[Nat.pow_succ] at h;exact Nat.div_lt_of_lt_mul (by omega)
  have:=aE6 n (u / 10) k' (by omega) h2;simp only[kH,fY,vR];omega
def bO5 (n:Int)(h: -9223372036854775808<=n/\n<=9223372036854775807):(KC n).length<=20:=by unfold KC;split;have:=aE6 20 n.natAbs 19 (by decide) (by omega);simp only[fY];omega;have:=aE6 20 n.toNat 19 (by decide) (by omega);omega
def bH2 (m:Nat)(hm:m<=1000000):∀(l:List (List UInt8)),(∀s∈l,s.length<=m)->(IK l).length<=l.length*(m+30)
 |[],_=>by simp[IK]
 |s::l,h=>by
  have h1:=h s (dC ..);have ih:=bH2 m hm l fun x hx=>h x (dL _ hx);have h2:=bO5 (s.length:Int) (by omega);have e:(IK (s::l)).length=(KC (s.length:Int)).length+(s.length+1)+(IK l).length:=by simp[IK];omega
  rw[e,fY,CM];omega
def aV6:∀l:List (List UInt8),Jf (aB V.s l)=some l
 |[]=>rfl|s::l=>by show Jf (V.s s::aB V.s l)=_;rw[Jf,aV6 l];rfl
def cF6:ER zL where
 clone l hl:=by rw[zL,aK (by decide),aY (by decide),KT,aK (by decide),aY rfl];exact bX9 (by simp[aB,bG.v,V.cells]) (by omega)
 itoa n hn:=by refine⟨KC n,?_,bO5 n hn⟩;rw[zL,aK (by decide),aY (by decide),KT,aK (by decide),aK (by decide),aK (by decide),aY rfl];simp only[Zs];exact aY hn
 pack l m hl hm hs:=by refine⟨IK l,?_,bH2 m hm l hs⟩;rw[zL,aK (by decide),aY (by decide),KT,aK (by decide),aK (by decide),aY rfl];simp only[Y',aV6,aZ];rw[aY ⟨hl,eM.2 fun s h=>by have:=hs s h;simp;omega⟩]
def aR6:vN zL where
 toER:=cF6
 of:=cF3
 denies x n:=by rw[HB (by decide) (by decide)];obtain⟨y,h,ha⟩:=Gh (eS8 x n) (cB4.2 ⟨_,rfl⟩);obtain⟨t,rfl⟩:=cB4.1 ha;exact⟨t,h⟩
 reserved l id d hl hx:=by rw[HB (by decide) (by decide)];obtain⟨y,h,ha⟩:=Gh (dG6 l id d (by omega)) (cB2.2 ⟨_,rfl,dH0 l id d hl hx⟩);obtain⟨s,rfl,p⟩:=cB2.1 ha;exact⟨s,h,p⟩
set_option maxRecDepth 100000 in
def dS2:OP zL:=fun s hs=>by simp only[vars,fF,oF,eP,xG,xH] at hs;rcases hs with rfl|rfl|rfl|rfl|rfl|rfl|rfl;all_goals exact⟨true,Gc (k:=400) 14 255 _ _ (by kernel_rfl)⟩
def cF5:Pu zL where
 tovN:=aR6
 two:=cN2
 nam:=dS2
 calcs:=eX6 eW8 eS2
 daily j id fr to hj:=by rw[HB (by decide) (by decide)];obtain⟨y,h,ha⟩:=Gh (eT4 (a:=id) (fr:=fr) (to:=to) hj) (cB1.2 ⟨_,rfl,eT5 id fr to j⟩);obtain⟨l,rfl,p⟩:=cB1.1 ha;exact⟨l,h,p⟩
 turn j id fr to hj:=by rw[HB (by decide) (by decide)];obtain⟨y,h,ha⟩:=Gh (cN5 (a:=id) (fr:=fr) (to:=to) hj) (cB0.2 ⟨_,_,rfl⟩);obtain⟨a,b,rfl⟩:=cB0.1 ha;exact⟨a,b,h⟩
def dO9 {b:cD}(h:b.ok):Lw b:=fun p hp=>by have:=h.2.2.2.2.1.2 p hp;obtain⟨_,_,_,_,_,_,_,_,_,⟨_,hf⟩,⟨_,hr⟩⟩:=this;exact⟨fun f h=>⟨(hf f h).2.2.1.2.2.2.2,(hf f h).2.2.2.2.2.2.2⟩,fun f h=>(hr f h).2.2.2.2.2.2⟩
def dY6 {x:bG}(h:x.ok):Dv x=true:=by
 obtain⟨h1,_,h3⟩:=h;have e:wrap64 x.account=x.account:=by unfold wrap64;have:=h1.1;have:=h1.2;omega
 have hw:(Lit.int .i64 x.account).wf=true:=by rw[<-e];exact wrap64_wf _
 unfold Dv;rw[hw,QB];exact yS h3
def e4 (b:cD)(es:List aW)(hb:b.ok)(hl:es.length<=maxLen)(he:∀e∈es,e.ok):OT zL 4 [b.v,.l (aB aW.v es)]=some (.b true):=by obtain⟨t,h5,ht⟩:=u5 (X:=zL) b (dO9 hb) (fun g hg=>(hb.2.2.1.2 g hg).2.2.2);have hlg:∀e:aW,e.ok->∀x∈e.legs,Dv x=true:=fun e h x hx=>dY6 (h.2.2.2.2.2.2.2.2.1.2 x hx);refine dY9 aR6 bB0 b es hl (fun e h=>hlg e (he e h)) t h5 fun htt=> ?_;have hs:=ht htt;have hF:=hs.few;refine⟨⟨⟨by have:=hF.jour;omega,hF.legs,fun e h x hx=>hs.amts e h x hx⟩,by have:=hF.jour;omega,fun e h=> ?_,fun e h=>hlg e (hb.2.2.2.2.2.2.1.2 e h)⟩,fun js hj e h=> ?_⟩;obtain⟨i,hi,rfl⟩:=lH h;exact(hs.snb.ents i hi).1.2.1;have hz:qU (nI b js):=⟨by have:=hF.curs;show b.currencies.length<=1000;omega,by have:=hF.chartL;show b.chart.length<=1000;omega,by have:=hF.accs;show b.accounts.length<=1000;omega,by have:=hF.prods;show b.products.length<=1000;omega,by have:=hj.len;show js.length<=1000;omega⟩;have hk:=he e h;exact⟨hz,⟨hs.accs,fun p hp=>(hs.prods p hp).over,by have:=hs.holdL;show b.holds.length<=64;omega,hs.holds,by have:=hs.blkL;show b.blocks.length<=64;omega,hs.blks⟩,hj.jb,dE8 cF5 (nI b js) hz hj.jk hs.prods,⟨hk.2.2.2.2.2.2.1,hk.2.2.2.2.2.2.2.1,fun x hx=>(hk.2.2.2.2.2.2.2.2.1.2 x hx).2.2⟩,⟨hk.1,hk.2.1,hk.2.2.1,hk.2.2.2.1,hk.2.2.2.2.1,hk.2.2.2.2.2.1,fun x hx=>(hk.2.2.2.2.2.2.2.2.1.2 x hx).1⟩⟩
end Go.Proofs.YtdlpbedneamebaaGreatDoor
namespace Go.Proofs.YtdlpbedneamebaaGreatDoor
open Go.ChangeShapes Go.WideShapes Go.ChangeAt Go.RowKit Go.VM
set_option maxRecDepth 100000 in
theorem fA8 {ys:List V}(h:cY Tryz.prog 310 33 ys):∃b:cD,ys=b.cells/\b.ok:=eJ7 (n:=5) h
set_option maxRecDepth 100000 in
theorem fA9 {ys:List V}(h:cY Tryz.prog 310 29 ys):∃l:List aW,ys=[.l (aB aW.v l)]/\l.length<=maxLen/\∀y∈l,y.ok:=bT4 (n:=305) h
theorem dL5 (x:V):Bi Tryz.prog 29 [x]=x:=bH4 (by kernel_rfl) x
set_option maxRecDepth 100000 in
theorem dK7 (xs:List V)(h:T7 Tryz.prog 310 [33,29] xs):PF Tryz.prog 4 xs (.b true):=by obtain⟨y1,r1,rfl,h1,y2,r2,rfl,h2,rfl⟩:=h;obtain⟨b,rfl,hb⟩:=fA8 h1;obtain⟨l,rfl,hl,he⟩:=fA9 h2;rw[dL4,dL5];exact((dC1 bB0).2 4 _ _ (e4 b l hb hl he)).2
theorem u6:ownKnob Tryz.prog.godebug=none:=by kernel_rfl
theorem dZ0:laidOutB Tryz.prog=true:=by kernel_rfl
abbrev p6:List (String×DataW Unit):=[("math/bits.deBruijn32tab",Rows.laid_math_bits_deBruijn32tab),("math/bits.deBruijn64tab",Rows.laid_math_bits_deBruijn64tab),("corebank/rounding.steps",Rows.laid_corebank_rounding_steps),("internal/strconv.uint64pow10",Rows.laid_internal_strconv_uint64pow10),("strconv.ErrRange",Rows.laid_strconv_ErrRange),("strconv.ErrSyntax",Rows.laid_strconv_ErrSyntax),("unicode.White_Space",Rows.laid_unicode_White_Space),("strings.asciiSpace",Rows.laid_strings_asciiSpace)]
theorem eS1 (os:Os)(args:Array Value):laidMetH Tryz.prog p6 ((World.doorLaid Tryz.prog 400 os).forCall (fun _ _=>0) ⟨#[],args,[]⟩).memory:=
 laidMetH_of_parts3 (fuel:=8) (laidMet_of_run' 8 (by kernel_rfl) (by kernel_rfl)) (by kernel_rfl) (by kernel_rfl)
theorem aY1 {W:World}{name:String}{g:Nat}{k:IntKind}{zs:List Int}(hg:Tryz.prog.globalNamed name=some g)(hT:Lib.TabIs Tryz.prog W name k zs)(h0:0<zs.length):
  aP (dS W) W (.pointer (some ⟨g,0,none⟩)) (.r (zs.map fun z=>V.i k z))/\dS W g/\W.cell? ⟨g,zs.length,none⟩=none:=by
 refine⟨eF9 h0 fun i hi=>hT.cell hg i hi,?_,?_⟩;show g<W.heap.size;have:=hT.cell hg 0 h0;unfold World.cell? at this;cases hh:W.heap[g]? with|none=>simp[hh] at this|some o=>exact(j6.1 hh).1
 rw[World.var?_cell hg hT zs.length];simp
def TV:List Int:=(List.range 256).map fun i=>if i=9\/i=10\/i=11\/i=12\/i=13\/i=32 then 1 else 0
theorem bR6:Tryz.prog.globalNamed "strings.asciiSpace"=some 5:=by kernel_rfl
theorem eZ9:(Rows.laid_strings_asciiSpace:DataW Unit)=Lib.tabData .u8 TV:=by kernel_rfl
theorem gok {W:World}(h:laidMetH Tryz.prog p6 W):mV (dS W) W:=by
 have h1:laidMetH Tryz.prog [("internal/strconv.uint64pow10",Rows.laid_internal_strconv_uint64pow10)] W:=by
  have h2:=h.filter (fun x=>x.1== "internal/strconv.uint64pow10");have e:(p6.filter fun x=>x.1== "internal/strconv.uint64pow10")=[("internal/strconv.uint64pow10",Rows.laid_internal_strconv_uint64pow10)]:=by kernel_rfl
  rw[e] at h2;exact h2
 rw[MakeChecks.laidMetH_plain _ _ _ (by kernel_rfl)] at h1;have hT:Lib.TabIs Tryz.prog W "internal/strconv.uint64pow10" .u64 Lib.pow10Tab:=Lib.tabIs_of_head (t:=334) (e:=57) (n:=20) (rest:=[]) aB1 (by kernel_rfl) (by kernel_rfl) (by kernel_rfl) (by kernel_rfl) (by kernel_rfl) h1;have h5:laidMetH Tryz.prog [("strings.asciiSpace",Rows.laid_strings_asciiSpace)] W:=by
  have h2:=h.filter (fun x=>x.1== "strings.asciiSpace");have e:(p6.filter fun x=>x.1== "strings.asciiSpace")=[("strings.asciiSpace",Rows.laid_strings_asciiSpace)]:=by kernel_rfl
  rw[e] at h2;exact h2
 rw[MakeChecks.laidMetH_plain _ _ _ (by kernel_rfl),eZ9] at h5;have hA:Lib.TabIs Tryz.prog W "strings.asciiSpace" .u8 TV:=Lib.tabIs_of_head (t:=378) (e:=5) (n:=256) (rest:=[]) bR6 (by kernel_rfl) (by kernel_rfl) (by kernel_rfl) (by kernel_rfl) (by kernel_rfl) h5;intro p hp;simp only[cB.gs,eP,xG,xH] at hp;rcases hp with rfl|rfl;have e:Ls=Lib.pow10Tab.map fun z=>V.i .u64 z:=by kernel_rfl
 have h:=aY1 aB1 hT (by rw[Lib.pow10Tab_length];omega);rw[<-e] at h;have hl:Lib.pow10Tab.length=Ls.length:=by rw[e,uP]
 rw[hl] at h;exact h;have e:XA=TV.map fun z=>V.i .u8 z:=by kernel_rfl
 have h:=aY1 bR6 hA (by unfold TV;rw[uP,List.length_range];omega);rw[<-e] at h;have hl:TV.length=XA.length:=by rw[e,uP]
 rw[hl] at h;exact h
set_option maxRecDepth 100000 in
theorem cO9 (os:Os)(started:os.Started)(H:Type)(enc:TypeId×Value->H):
  ReturnsInHanded {} Tryz.checked os 4 .any (fun w args=>(Rows.topTrialSpec.pre enc Tryz.prog Tryz.f4 [] false w args/\laidMetH Tryz.prog p6 w)/\sizedMet enc Tryz.prog Tryz.f4 (OpenSpec.ofChange Rows.topTrialSpec) false w args)
   (Rows.topTrialSpec.post enc Tryz.prog Tryz.f4 false true false false):=by
 refine returnsInHanded_of_change_and (C:=Tryz.checked) (X:=fun w _=>laidMetH Tryz.prog p6 w) (fun _ _ _ hh h=>h.of_heap hh) u6 started (by kernel_rfl) Tryz.func4
  (ChangeSpec.witness_shaped (enc:=enc) (C:=Tryz.checked) (os:=os) (X:=fun w _=>laidMetH Tryz.prog p6 w) false (World.doorLaid Tryz.prog 400 os) #[.agg #[.slice none 0 0,.slice none 0 0,.slice none 0 0,.int .i64 0,.int .i64 0,.int .i64 0,.int .i64 0,.int .i64 0,.int .i64 0,.int .i64 0,.int .i64 0,.int .i64 0,.int .i64 0,.int .i64 0,.int .i64 0,.int .i64 0,.int .i64 0,.slice none 0 0,.slice none 0 0,.slice none 0 0,.slice none 0 0,.slice none 0 0],.slice none 0 0] 8 rfl (World.shaped_of_RefB (by kernel_rfl) (by kernel_rfl)) (by kernel_rfl) (by kernel_rfl) (by kernel_rfl) (eS1 os _)) ?_
 intro W aD args ds gs before lL hW _ _ hL _;refine bY3 310 (P:=Tryz.prog) dZ0 ?_ ?_ (tb:=4) rfl Tryz.underlying4 rfl ?_ ?_ lL hW (gok hL);rw[Tryz.params4];simp only[eP,xG,xH,forall_eq_or_imp,forall_eq];exact⟨⟨by kernel_rfl,by decide+kernel⟩,⟨by kernel_rfl,by decide+kernel⟩⟩;rw[Tryz.params4];simp only[eP,xG,xH,forall_eq_or_imp,forall_eq];exact⟨by kernel_rfl,by kernel_rfl⟩;rw[Tryz.params4];intro ds hd
 match ds,hd with|[d1,d2],_=>rfl
 rw[Tryz.params4];exact dK7
theorem topTrial_holds:Rows.TopTrialSaid:=
 OpenClaim.holds_of_wide 4 Tryz.f4 rfl rfl rfl rfl rfl rfl rfl ⟨rfl,rfl,rfl,rfl,rfl⟩ rfl rfl rfl rfl rfl (by kernel_rfl) Tryz.func4 bU1
  (Xc (by kernel_rfl)) (by unfold Func.isWrapper;first |(rw[aY (by decide+kernel)];kernel_rfl)|(rw[aK (by decide+kernel)];exact⟨rfl,rfl⟩))
  (fun os started H enc _=>cO9 os started H enc)
end Go.Proofs.YtdlpbedneamebaaGreatDoor
