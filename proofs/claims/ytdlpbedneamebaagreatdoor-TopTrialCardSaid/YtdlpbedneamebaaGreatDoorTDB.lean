/-
Plain laws and walks: part of the proof of the last text.
-/
import Derived.Test.YtdlpbedneamebaaGreatDoorTAB
import Derived.Test.YtdlpbedneamebaaGreatDoorTCB
set_option linter.all false
namespace Go.Proofs.YtdlpbedneamebaaGreatDoor
open Go.VM
variable {X:aU}
@[simp] def fF5:IntKind.u64.signed=false:=rfl
structure CK (X:aU):Prop where
 sub:∀a b c d:Int,cG b->cG d->∃h l e:Int,X 260 [.a [.i .i64 a,.i .u64 b],.a [.i .i64 c,.i .u64 d]]=some (.t [.a [.i .i64 h,.i .u64 l],.i .i64 e])/\cG l
 add:∀a b c d:Int,cG b->cG d->∃h l e:Int,X 262 [.a [.i .i64 a,.i .u64 b],.a [.i .i64 c,.i .u64 d]]=some (.t [.a [.i .i64 h,.i .u64 l],.i .i64 e])/\cG l
 neg:∀h l:Int,∃h' l':Int,X 296 [.a [.i .i64 h,.i .u64 l]]=some (.a [.i .i64 h',.i .u64 l'])/\cG l'
 tim:∀a b:Int,∃(h l:Int) (t:Bool),X 318 [.a [.i .u64 a,.i .u64 b],.i .u64 1,.i .u64 1]=some (.t [.a [.i .u64 h,.i .u64 l],.b t])/\cG h/\cG l
def JS (n:Int):∃h l:Int,O X 261 [.i .i64 n]=some (.a [.i .i64 h,.i .u64 l])/\cG l:=
 ⟨_,_,aI (fc:=aI1) cR8 rfl rfl (by simp[aI1,O7];rfl),cG.wrap n⟩
def aT0 (n:Int):∃l:Int,O X 295 [.i .i64 n]=some (.i .u64 l)/\cG l:=by by_cases h:n<0;exact⟨_,aI (fc:=SV) aW7 rfl rfl (by simp[SV,h];rfl),cG.wrap _⟩;exact⟨_,aI (fc:=SV) aW7 rfl rfl (by simp[SV,h];rfl),cG.wrap _⟩
def cI5 (a b:Int):∃h l:Int,O X 294 [.i .u64 a,.i .u64 b]=some (.t [.i .u64 h,.i .u64 l])/\cG h/\cG l:=
 ⟨_,_,aI (fc:=aH5) cR6 rfl rfl (by simp[aH5,Eo];exact⟨rfl,rfl⟩),cG.wrap _,cG.wrap _⟩
def Xj (hc:CK X)(h l:Int):∃h' l':Int,O X 296 [.a [.i .i64 h,.i .u64 l]]=some (.a [.i .i64 h',.i .u64 l'])/\cG l':=by obtain⟨h',l',e,p⟩:=hc.neg h l;exact⟨h',l',vJ rfl e,p⟩
def WP (y:V):Prop:=∃h l:Int,y= .a [.i .i64 h,.i .u64 l]/\cG l
@[simp] def gQ3 (h l:Int):WP (.a [.i .i64 h,.i .u64 l])=cG l:=by unfold WP;apply propext;constructor;rintro⟨h',l',e,hp⟩;cases e;exact hp;exact fun hp=>⟨h,l,rfl,hp⟩
def WE2 (y:V):Prop:=∃h l e:Int,y= .t [.a [.i .i64 h,.i .u64 l],.i .i64 e]/\cG l
@[simp] def gQ4 (h l e:Int):WE2 (.t [.a [.i .i64 h,.i .u64 l],.i .i64 e])=cG l:=by unfold WE2;apply propext;constructor;rintro⟨h',l',e',h1,hp⟩;cases h1;exact hp;exact fun hp=>⟨h,l,e,rfl,hp⟩
def aT1 (hc:CK X)(a b c d:Int)(hb:cG b)(hd:cG d):∃h l e:Int,O X 262 [.a [.i .i64 a,.i .u64 b],.a [.i .i64 c,.i .u64 d]]=some (.t [.a [.i .i64 h,.i .u64 l],.i .i64 e])/\cG l:=by obtain⟨h,l,e,q,p⟩:=hc.add a b c d hb hd;exact⟨h,l,e,vJ rfl q,p⟩
def aT2 (hc:CK X)(a b c d:Int)(hb:cG b)(hd:cG d):∃h l e:Int,O X 260 [.a [.i .i64 a,.i .u64 b],.a [.i .i64 c,.i .u64 d]]=some (.t [.a [.i .i64 h,.i .u64 l],.i .i64 e])/\cG l:=by obtain⟨h,l,e,q,p⟩:=hc.sub a b c d hb hd;exact⟨h,l,e,vJ rfl q,p⟩
def Xl (a b:Int):∃(n:Int) (t:Bool),O X 279 [.a [.i .i64 a,.i .u64 b]]=some (.t [.i .i64 n,.b t])/\bR n:=by
 obtain⟨h,l,h1,_⟩:=JS (X:=X) (IntKind.i64.wrap b);by_cases c:h=a/\l=b;obtain⟨rfl,rfl⟩:=c;exact⟨IntKind.i64.wrap l,true,aI (fc:=PZ) aW8 rfl rfl (by simp[PZ,h1,iL]),bR.wrap _⟩;exact⟨0,false,aI (fc:=PZ) aW8 rfl rfl (by
  by_cases c1:h=a;have c2:l≠b:=fun h=>c ⟨c1,h⟩;simp[PZ,h1,iL,c1,c2];simp[PZ,h1,iL,c1]),HS⟩
def UN (a b e:Int):∃n f:Int,O X 259 [.a [.i .i64 a,.i .u64 b],.i .i64 e]=some (.t [.i .i64 n,.i .i64 f])/\bR n:=by
 obtain⟨n,t,h1,hr⟩:=Xl (X:=X) a b;by_cases he:e=0;cases t with|true=>exact⟨n,0,aI (fc:=Mj) YA rfl rfl (by simp[Mj,h1,he]),hr⟩|false=>exact⟨0,6,aI (fc:=Mj) YA rfl rfl (by simp[Mj,h1,he]),HS⟩
 exact⟨0,6,aI (fc:=Mj) YA rfl rfl (by simp[Mj,h1,he]),HS⟩
def cI8 (hc:CK X)(a b:Int):∃h l:Int,O X 282 [.i .i64 a,.i .i64 b]=some (.a [.i .i64 h,.i .u64 l])/\cG l:=by obtain⟨x,h1,_⟩:=aT0 (X:=X) a;obtain⟨y,h2,_⟩:=aT0 (X:=X) b;obtain⟨h,l,h3,p3,p4⟩:=cI5 (X:=X) x y;obtain⟨h',l',h4,p5⟩:=Xj hc (IntKind.i64.wrap h) l;by_cases c1:a<0<;>by_cases c2:b<0;exact⟨_,l,aI (fc:=Ik) Ui rfl rfl (by simp[Ik,h1,h2,h3,c1,c2];rfl),p4⟩;exact⟨h',l',aI (fc:=Ik) Ui rfl rfl (by simp[Ik,h1,h2,h3,c1,c2,h4]),p5⟩;exact⟨h',l',aI (fc:=Ik) Ui rfl rfl (by simp[Ik,h1,h2,h3,c1,c2,h4]),p5⟩;exact⟨_,l,aI (fc:=Ik) Ui rfl rfl (by simp[Ik,h1,h2,h3,c1,c2];rfl),p4⟩
def cI2 (hc:CK X)(a b:Int)(hb:cG b):∃h l:Int,O X 316 [.a [.i .i64 a,.i .u64 b]]=some (.a [.i .u64 h,.i .u64 l])/\cG h/\cG l:=by obtain⟨h',l',h4,p5⟩:=Xj hc a b;by_cases c:a<0;exact⟨_,l',aI (fc:=SU) aW6 rfl rfl (by simp[SU,c,h4];rfl),cG.wrap _,p5⟩;exact⟨_,b,aI (fc:=SU) aW6 rfl rfl (by simp[SU,c];rfl),cG.wrap _,hb⟩
def cI0 (hc:CK X)(a b:Int):∃(h l:Int) (t:Bool),O X 318 [.a [.i .u64 a,.i .u64 b],.i .u64 1,.i .u64 1]=some (.t [.a [.i .u64 h,.i .u64 l],.b t])/\cG h/\cG l:=by obtain⟨h,l,t,q,p⟩:=hc.tim a b;exact⟨h,l,t,vJ rfl q,p⟩
def Xi (hc:CK X)(a b:Int)(hb:cG b)(t:Bool):∃h l e:Int,O X 319 [.a [.i .u64 a,.i .u64 b],.b t]=some (.t [.a [.i .i64 h,.i .u64 l],.i .i64 e])/\cG l:=by
 obtain⟨h',l',h4,p5⟩:=Xj hc (IntKind.i64.wrap a) b;have:∃y,O X 319 [.a [.i .u64 a,.i .u64 b],.b t]=some y/\WE2 y:=by
  refine gZ (fc:=K3) cR2 rfl rfl ?_;by_cases c1:9223372036854775808<a;simp[K3,c1,XI];by_cases c2:a=9223372036854775808;cases t with|false=>simp[K3,c2,XI]|true=>subst c2;by_cases c3:0<b;simp[K3,c3,XI];simp[K3,c3,h4,p5]
  cases t with|false=>simp[K3,c1,c2,hb]|true=>simp[K3,c1,c2,h4,p5]
 obtain⟨y,h,a',b',e',rfl,hp⟩:=this;exact⟨a',b',e',h,hp⟩
def cI1 (hd:N2 X)(a b n:Int)(ha:cG a)(hb:cG b)(hn:cG n)(h0:0<n):∃h l r:Int,O X 317 [.a [.i .u64 a,.i .u64 b],.i .u64 n]=some (.t [.a [.i .u64 h,.i .u64 l],.i .u64 r])/\cG h/\cG l/\cG r:=by
 have h1:a.tmod n=a % n:=GN ha.1;have h2:=Ti a (show n≠0 by omega);have h3:=Th a h0;obtain⟨q,r,h4,p,p'⟩:=hd (a.tmod n) b n (by rw[h1];unfold cG at hn⊢;omega) hb hn (by omega);have qP:n≠0:=by omega
 exact⟨_,q,r,aI (fc:=aH1) cR3 rfl rfl (by simp[aH1,qP,h4];rfl),cG.wrap _,p,p'⟩
def H4:C:=.dg [.s (kI 39 2 tQ []),.s (iU 40 0 2),.s (bX 41 40),.s (.q 42 (.bin .lss) [.t 41,Nw]),.s (bN 43 42),E6 43 44 (kI 44 2 tQ []),E6 43 45 (nX 45 jD [jD] [] []),E6 43 46 (.q 46 (.eqa true [1,1]) [QS,QT]),.pick 47 43 LZ (.c gI),.s (l7 48 319 39 47 []),.s (bN 38 48),.s (fJ 49 38),.s (fK 50 38),.s (CV 9 jD []),.s (lI 9 49),.s (Da 50)] [[],[],[1],[1,2],[1,2,3],[1,2,3,4],[1,2,3,4],[1,2,3,4,5,6],[1,2,3,4,5,6,7],[0,1,2,3,4,5,6,7,8],[0,1,2,3,4,5,6,7,8,9],[0,1,2,3,4,5,6,7,8,9,10],[0,1,2,3,4,5,6,7,8,9,10],[],[0,1,2,3,4,5,6,7,8,9,10,11,13],[0,1,2,3,4,5,6,7,8,9,10,11,12,13,14]] [39,40,41,42,43,44,45,46,47,48,38,49,50,10]
def K4:aQ:=⟨2,[.cell 4 2 true,.tmp 5,.tmp 6],kL (oY [CV 4 jD [],xV,B7]) (vZ [(12,Ae .lss 1 [Ac])] 12 (wA [mL 13 [jD] [] [],xP 13,xV,Ab 6 1] [13] 4 [5,6])) (iO (lV 15 2 [.t 2] [nK 16 316 15 [],iT 17,.q 18 z8 [L5],l7 19 317 16 18 [],bN 14 19,fJ 20 14,fK 21 14,Dk 7 jD [jD],lI 7 20,xR 21] [15,16,17,18,19,14,20,21]) (vZ [(28,gT (zY .lss 0 1 2 [] [] [qL]) (Ae .gtr 8 [uV]))] 28 (wC [kI 30 2 tQ [],l8 31 318 30 (.c (Ja 1)) [.c (Ja 1)],bN 29 31,fJ 32 29,fK 33 29,lI 7 32] [30,31,29,32,33] (dV 8 (J9 .sub (rB z8 1 []) [.sl 8]) []))) H4 (lV 51 2 [Nl] [bN 52 8,.q 53 Di [.t 52],xP 51,zW 53,B7] [51,52,53]) 4 [5,6])⟩
def wD:C:=.d [kI 30 2 E9 [],kI 31 2 E9 [],bN 32 9,iT 33,qI 34,l7 35 299 31 32 [L0,G0],nK 36 261 35 [],l8 37 262 30 L3 [],bN 29 37,fJ 38 29,fK 39 29,lI 8 38] [[],[],[],[],[],[1,2,3,4],[1,2,3,4,5],[0,1,2,3,4,5,6],[0,1,2,3,4,5,6,7],[0,1,2,3,4,5,6,7,8],[0,1,2,3,4,5,6,7,8],[0,1,2,3,4,5,6,7,8,9]] [30,31,32,33,34,35,36,37,29,38,39]
def DJ:aQ:=⟨3,[.tmp 6,.tmp 7],gK Dc [B7,GZ] (kL (vZ [(19,gH (Ae .lss 1 [Ac]) (qG (B0 297 Q1 [])))] 19 (kK [(6,qL),(7,Ac)] 6 [7])) (lV 21 2 [pO] [iT 22,l8 23 298 21 B9 [],GR 20,fJ 24 20,fK 25 20,.ext 26 2 20,CV 8 jD [],lI 8 24,eR 9 25,Da 26] [21,22,23,20,24,25,26,10]) (iO (vZ [(28,Ae .gtr 9 [qL])] 28 wD) (dV 11 (Ua 0 (B0 279 (rB (LV 2) 8 []) []) []) [(12,Ua 1 (B0 279 (rB (LV 2) 8 []) []) [])]) (vZ [(46,rB G6 12 [])] 46 (kK [(6,qL),(7,rU 6)] 6 [7])) (dV 6 (.sl 11) [(7,qL)]) 6 [7]))⟩
def CE (a b n S T r:Int)(x:Bool)(post:List (Nat×V)):aG:=[(0,.a [.i .i64 a,.i .u64 b]),(1,.i .i64 n),(2,.bx [.i .i64 a,.i .u64 b]),(4,.bx [.i .i64 0,.i .u64 0]),(5,.i .i64 0),(6,.i .i64 0),(7,.bx [.i .u64 S,.i .u64 T]),(8,.i .u64 r)]++post++[(12,.b false),(28,.b x)]
set_option maxHeartbeats 16000000 in
def eS5 (a b n S T r h l e:Int)(x:Bool)(hs:O X 319 [.a [.i .u64 S,.i .u64 T],.b false]=some (.t [.a [.i .i64 h,.i .u64 l],.i .i64 e]))(ha:¬a<0):bI (O X) H4 (CE a b n S T r x [])=some (.n,CE a b n S T r x [(9,.bx [.i .i64 h,.i .u64 l])]):=by simp(config := { maxSteps := 3000000 }) [H4,CE,ha,hs]
set_option maxHeartbeats 16000000 in
def eS4 (a b n r h l e:Int)(x:Bool)(hs:O X 319 [.a [.i .u64 0,.i .u64 0],.b false]=some (.t [.a [.i .i64 h,.i .u64 l],.i .i64 e]))(ha:a<0):bI (O X) H4 (CE a b n 0 0 r x [])=some (.n,CE a b n 0 0 r x [(9,.bx [.i .i64 h,.i .u64 l])]):=by simp(config := { maxSteps := 3000000 }) [H4,CE,ha,hs,iL]
set_option maxHeartbeats 16000000 in
def eS6 (a b n S T r h l e:Int)(x:Bool)(hs:O X 319 [.a [.i .u64 S,.i .u64 T],.b true]=some (.t [.a [.i .i64 h,.i .u64 l],.i .i64 e]))(ha:a<0)(hz:¬(S=0/\T=0)):bI (O X) H4 (CE a b n S T r x [])=some (.n,CE a b n S T r x [(9,.bx [.i .i64 h,.i .u64 l])]):=by by_cases c2:S=0;have c3:T≠0:=fun h=>hz ⟨c2,h⟩;subst c2;simp(config := { maxSteps := 3000000 }) [H4,CE,ha,hs,iL,c3];simp(config := { maxSteps := 3000000 }) [H4,CE,ha,hs,iL,c2]
def bW4 (hc:CK X)(a b n S T r:Int)(hT:cG T)(x:Bool):∃h l:Int,bI (O X) H4 (CE a b n S T r x [])=some (.n,CE a b n S T r x [(9,.bx [.i .i64 h,.i .u64 l])])/\cG l:=by by_cases ha:a<0;by_cases hz:S=0/\T=0;obtain⟨rfl,rfl⟩:=hz;obtain⟨h,l,e,hs,p⟩:=Xi hc 0 0 XI false;exact⟨h,l,eS4 a b n r h l e x hs ha,p⟩;obtain⟨h,l,e,hs,p⟩:=Xi hc S T hT true;exact⟨h,l,eS6 a b n S T r h l e x hs ha hz,p⟩;obtain⟨h,l,e,hs,p⟩:=Xi hc S T hT false;exact⟨h,l,eS5 a b n S T r h l e x hs ha,p⟩
end Go.Proofs.YtdlpbedneamebaaGreatDoor
namespace Go.Proofs.YtdlpbedneamebaaGreatDoor
open Go.VM
variable {X:aU}
set_option maxHeartbeats 4000000 in
def cI4 (hc:CK X)(hd:N2 X)(a b n:Int)(hb:cG b)(hn:1<=n/\n<=9223372036854775807):∃h l r e:Int,O X 298 [.a [.i .i64 a,.i .u64 b],.i .i64 n]=some (.t [.a [.i .i64 h,.i .u64 l],.i .i64 r,.i .i64 e])/\cG l:=by
 have tb:bJ 298=some K4:=by rw[show K4=aH3 from rfl];exact cR4
 obtain⟨x,y,h1,p1,q1⟩:=cI2 hc a b hb;have hnw:IntKind.u64.wrap n=n:=by rw[IntKind.wrap_u64];omega
 obtain⟨s,t,r,h2,p2,q2,r2⟩:=cI1 hd x y n p1 q1 (by unfold cG;omega) (by omega);obtain⟨s',t',u,h3,p3,q3⟩:=cI0 hc s t;have c0:¬n<1:=by omega
 by_cases c:a<0/\0<r;obtain⟨c,c1⟩:=c;obtain⟨h,l,hD,p⟩:=bW4 hc a b n s' t' (IntKind.u64.wrap (n - r)) q3 true;simp only[CE,DY,A5,A4] at hD;exact⟨h,l,IntKind.i64.wrap (IntKind.u64.wrap (n - r)),0,aI (fc:=K4) tb rfl rfl (by simp[K4,c0,h1,hnw,h2,c,c1,h3,hD]),p⟩;obtain⟨h,l,hD,p⟩:=bW4 hc a b n s t r q2 false;simp only[CE,DY,A5,A4] at hD;refine⟨h,l,IntKind.i64.wrap r,0,aI (fc:=K4) tb rfl rfl ?_,p⟩;by_cases c2:a<0;have c1:¬0<r:=fun h=>c ⟨c2,h⟩;simp[K4,c0,h1,hnw,h2,c2,c1,hD];simp[K4,c0,h1,hnw,h2,c2,hD]
def cI3 (a b r n:Int):∃k:Int,O X 299 [.a [.i .i64 a,.i .u64 b],.i .i64 r,.i .i64 n,.i .i64 6]=some (.i .i64 k):=by by_cases c1:IntKind.i64.wrap (n - r)<r;exact⟨1,aI (fc:=Mf) Xz rfl rfl (by simp[Mf,c1])⟩;by_cases c2:r<IntKind.i64.wrap (n - r);exact⟨0,aI (fc:=Mf) Xz rfl rfl (by simp[Mf,c1,c2])⟩;exact⟨_,aI (fc:=Mf) Xz rfl rfl (by simp[Mf,c1,c2];rfl)⟩
set_option maxHeartbeats 16000000 in
def cH2 (a b n h l r k h3 l3 h4 l4 x4:Int)(h2:O X 299 [.a [.i .i64 h,.i .u64 l],.i .i64 r,.i .i64 n,.i .i64 6]=some (.i .i64 k))(e3:O X 261 [.i .i64 k]=some (.a [.i .i64 h3,.i .u64 l3]))(e4:O X 262 [.a [.i .i64 h,.i .u64 l],.a [.i .i64 h3,.i .u64 l3]]=some (.t [.a [.i .i64 h4,.i .u64 l4],.i .i64 x4])):bI (O X) wD [(0,.a [.i .i64 a,.i .u64 b]),(1,.i .i64 n),(2,.i .i64 6),(3,.bx [.i .i64 a,.i .u64 b]),(6,.i .i64 0),(7,.i .i64 0),(8,.bx [.i .i64 h,.i .u64 l]),(9,.i .i64 r),(19,.b false),(28,.b true)]=some (.n,[(0,.a [.i .i64 a,.i .u64 b]),(1,.i .i64 n),(2,.i .i64 6),(3,.bx [.i .i64 a,.i .u64 b]),(6,.i .i64 0),(7,.i .i64 0),(8,.bx [.i .i64 h4,.i .u64 l4]),(9,.i .i64 r),(19,.b false),(28,.b true)]):=by simp(config := { maxSteps := 3000000 }) [wD,h2,e3,e4]
set_option maxHeartbeats 4000000 in
def Xk (hc:CK X)(hd:N2 X)(a b n:Int)(hb:cG b)(hn:n<=9223372036854775807):∃x e:Int,O X 283 [.a [.i .i64 a,.i .u64 b],.i .i64 n,.i .i64 6]=some (.t [.i .i64 x,.i .i64 e])/\bR x:=by
 have tb:bJ 283=some DJ:=by rw[show DJ=aH8 from rfl];exact cR7
 have hv:O X 297 [.i .i64 6]=some (.b true):=aI (fc:=aH4) cR5 rfl rfl (by simp[aH4]);by_cases c0:n<1;exact⟨0,1,aI (fc:=DJ) tb rfl rfl (by simp[DJ,c0]),HS⟩;obtain⟨h,l,r,e,h1,p1⟩:=cI4 hc hd a b n hb (by omega);by_cases c1:0<r;obtain⟨k,h2⟩:=cI3 (X:=X) h l r n;obtain⟨h3,l3,e3,p3⟩:=JS (X:=X) k;obtain⟨h4,l4,x4,e4,p4⟩:=aT1 hc h l h3 l3 p1 p3;have hD:=cH2 (X:=X) a b n h l r k h3 l3 h4 l4 x4 h2 e3 e4;obtain⟨m,t,h5,hm⟩:=Xl (X:=X) h4 l4;cases t with|true=>exact⟨m,0,aI (fc:=DJ) tb rfl rfl (by simp[DJ,c0,hv,h1,c1,hD,h5]),hm⟩|false=>exact⟨0,6,aI (fc:=DJ) tb rfl rfl (by simp[DJ,c0,hv,h1,c1,hD,h5]),HS⟩
 obtain⟨m,t,h5,hm⟩:=Xl (X:=X) h l;cases t with|true=>exact⟨m,0,aI (fc:=DJ) tb rfl rfl (by simp[DJ,c0,hv,h1,c1,h5]),hm⟩|false=>exact⟨0,6,aI (fc:=DJ) tb rfl rfl (by simp[DJ,c0,hv,h1,c1,h5]),HS⟩
def cJ1 (hc:CK X)(hd:N2 X)(x y:Vl):∃n e:Int,O X 263 [x.v,y.v]=some (.t [.i .i64 n,.i .i64 e])/\bR n:=by obtain⟨h,l,h1,p1⟩:=cI8 hc x.n y.n;obtain⟨m,e,h2,r2⟩:=Xk hc hd h l 1000000 p1 (by decide);obtain⟨m',e',h3,r3⟩:=UN (X:=X) h l 0;by_cases c1:x.ty=y.ty;exact⟨m',e',aI (fc:=Il) Uj rfl rfl (by simp[Il,h1,c1,h3]),r3⟩;by_cases c2:x.ty=1;exact⟨m',e',aI (fc:=Il) Uj rfl rfl (by simp[Il,h1,c1,c2,h3]),r3⟩;by_cases c3:y.ty=1;exact⟨m',e',aI (fc:=Il) Uj rfl rfl (by simp[Il,h1,c1,c2,c3,h3]),r3⟩;exact⟨m,e,aI (fc:=Il) Uj rfl rfl (by simp[Il,h1,c1,c2,c3,h2]),r2⟩
def cJ0 (hc:CK X)(hd:N2 X)(x y:Vl)(h0:y.n≠0)(hy:bR y.n):∃n e:Int,O X 264 [x.v,y.v]=some (.t [.i .i64 n,.i .i64 e])/\bR n:=by by_cases c1:x.ty=y.ty;by_cases c2:x.n= -9223372036854775808;by_cases c3:y.n= -1;exact⟨0,6,aI (fc:=DK) OC rfl rfl (by simp[DK,c1,c2,c3]),HS⟩;exact⟨_,0,aI (fc:=DK) OC rfl rfl (by simp[DK,c1,c2,c3,h0];rfl),bR.wrap _⟩;exact⟨_,0,aI (fc:=DK) OC rfl rfl (by simp[DK,c1,c2,h0];rfl),bR.wrap _⟩;by_cases c2:y.n= -9223372036854775808;exact⟨0,0,aI (fc:=DK) OC rfl rfl (by simp[DK,c1,c2]),HS⟩;by_cases c3:y.n<0;obtain⟨h,l,h1,p1⟩:=JS (X:=X) (IntKind.i64.wrap (0 - x.n));obtain⟨m,e,h2,r2⟩:=Xk hc hd h l (IntKind.i64.wrap (0 - y.n)) p1 (bR.wrap _).2;exact⟨m,e,aI (fc:=DK) OC rfl rfl (by simp at h1 h2;simp[DK,c1,c2,c3,h1,h2]),r2⟩;obtain⟨h,l,h1,p1⟩:=JS (X:=X) x.n;obtain⟨m,e,h2,r2⟩:=Xk hc hd h l y.n p1 hy.2;exact⟨m,e,aI (fc:=DK) OC rfl rfl (by simp[DK,c1,c2,c3,h1,h2]),r2⟩
set_option maxHeartbeats 4000000 in
def eX6 (hc:CK X)(hd:N2 X):Pz X:=by
 intro op l hl hr
 match l,hl,hr with
 |[],hl,_=>simp at hl|_::_::_::_,hl,_=>simp at hl
 |[x],hl,hr=>
  obtain rfl:op=9:=by simp at hl;omega
  obtain⟨a,b,h1,p1⟩:=JS (X:=X) 0;obtain⟨c,d,h2,p2⟩:=JS (X:=X) x.n;obtain⟨e,f,g,h3,p3⟩:=aT2 hc a b c d p1 p2;obtain⟨n,k,h4,r4⟩:=UN (X:=X) e f g;exact⟨n,k,aI (fc:=DL) OD rfl rfl (by simp[DL,aB,h1,h2,h3,h4]),r4⟩
 |[x,y],hl,hr=>
  have h9:op≠9:=by simp at hl;omega
  obtain⟨a,b,h1,p1⟩:=JS (X:=X) x.n;obtain⟨c,d,h2,p2⟩:=JS (X:=X) y.n;by_cases h5:op=5;obtain⟨e,f,g,h3,p3⟩:=aT1 hc a b c d p1 p2;obtain⟨n,k,h4,r4⟩:=UN (X:=X) e f g;exact⟨n,k,aI (fc:=DL) OD rfl rfl (by simp[DL,aB,h5,h1,h2,h3,h4]),r4⟩;by_cases h6:op=6;obtain⟨e,f,g,h3,p3⟩:=aT2 hc a b c d p1 p2;obtain⟨n,k,h4,r4⟩:=UN (X:=X) e f g;exact⟨n,k,aI (fc:=DL) OD rfl rfl (by simp[DL,aB,h6,h1,h2,h3,h4]),r4⟩;by_cases h7:op=7;obtain⟨n,k,h4,r4⟩:=cJ1 hc hd x y;exact⟨n,k,aI (fc:=DL) OD rfl rfl (by simp[DL,aB,h7,h4]),r4⟩;by_cases h0:y.n=0;exact⟨0,7,aI (fc:=DL) OD rfl rfl (by simp[DL,aB,h5,h6,h7,h9,h0]),HS⟩;obtain⟨n,k,h4,r4⟩:=cJ0 hc hd x y h0 (hr y (by simp));exact⟨n,k,aI (fc:=DL) OD rfl rfl (by simp[DL,aB,h5,h6,h7,h9,h0,h4]),r4⟩
end Go.Proofs.YtdlpbedneamebaaGreatDoor
