/-
Plain laws and walks: part of the proof of the last text.
-/
import Derived.Test.YtdlpbedneamebaaGreatDoorTM
set_option linter.all false
namespace Go.Proofs.YtdlpbedneamebaaGreatDoor
open Go.VM
variable {X:aU}
def gB:Option V->Bool
 |some (.b t)=>t|_=>false
@[simp] def gC4 (t:Bool):gB (some (.b t))=t:=rfl
def PL:∀{n m:Nat} {ys:List V},n<=m->pH m ys->pH n ys
 |0,_,_,_,_=>trivial|n+1,0,_,hm,_=>by omega
 |n+1,m+1,_,hm,⟨op,k,s,args,h1,h2,h3⟩=>⟨op,k,s,args,h1,h2,fun y hy=>by
  obtain⟨zs,h4,h5⟩:=h3 y hy;exact⟨zs,h4,PL (by omega) h5⟩⟩
def nV.okX (f:nV):Prop:=pH 102 f.when.cells/\pH 102 f.amount.cells
def kS.okX (f:kS):Prop:=pH 102 f.amount.cells
def gZ {f:Nat}{fc:aQ}(ht:bJ f=some fc){args:List V}{R:V->Prop}(hl:args.length=fc.np)(ha:args.all V.arg=true)(h:∃y,wH fc.res (bI (O X) fc.body (kR 0 args))=some y/\R y):∃y,O X f args=some y/\R y:=dD9 ht hl ha h
def w1:IntKind.i64.wrap 1=1:=bC 1 (by omega)
abbrev isB (y:V):Prop:=∃t,y= .b t
abbrev isI (y:V):Prop:=∃n,y= .i .i64 n
def t30 (s:List UInt8):∃t,O X 74 [.s s]=some (.b t):=by
 by_cases h3:s.length=3
 ·have hl:∃r,bP (O X) [0,3] W9 [(0,.s s),(3,.i .i64 (0:Nat))]=some r/\(r=(.r,[(2,.b false)])\/r=(.e 0,[])):=by
   refine lK (fun i=>[(0,.s s),(3,.i .i64 (i:Int))]) 3 _ (by simp) (fun i hi=> ?_) (by simp[W9]);have hw:=bC (i+1) (by omega);have hs:i<s.length:=by omega
   have kO:(i:Int)<3:=by omega
   simp[-Prod.exists,W9,hs,kO,hw];repeat' split
   all_goals simp[-Prod.exists]
  obtain⟨r,hl,hr⟩:=hl;simp only[fU] at hl;refine⟨_,aI (fc:=SM) rfl rfl rfl (y:= .b (match r.1 with | .r=>false|_=>true)) ?_⟩;rcases hr with rfl|rfl<;>simp[SM,h3,bA,hl]
 have EL:¬(s.length:Int)=3:=by omega
 exact⟨_,aI (fc:=SM) rfl rfl rfl (y:= .b false) (by simp[SM,EL])⟩
def t9 (l:List gR):∃n,O X 36 [.l (aB gR.v l)]=some (.i .i64 n):=by
 by_cases h1:l.length<1;have jI:(l.length:Int)<1:=by omega
 exact⟨_,aI (fc:=Ii) rfl rfl rfl (y:= .i .i64 5) (by simp[Ii,jI])⟩;by_cases h2:8<l.length;have jI:¬(l.length:Int)<1:=by omega
 have jT:(8:Int)<(l.length:Int):=by omega
 exact⟨_,aI (fc:=Ii) rfl rfl rfl (y:= .i .i64 5) (by simp[Ii,jI,jT])⟩;have jI:¬(l.length:Int)<1:=by omega
 have jT:¬(8:Int)<(l.length:Int):=by omega
 have hl:∃r,bP (O X) [0,3] P5 [(0,.l (aB gR.v l)),(3,.i .i64 (0:Nat))]=some r/\((∃n,r=(.r,[(2,.i .i64 n)]))\/r=(.e 0,[])):=by
  refine lK (fun i=>[(0,.l (aB gR.v l)),(3,.i .i64 (i:Int))]) l.length _ (by simp) (fun i hi=> ?_) (by simp[P5]);have hw:=bC (i+1) (by omega);obtain⟨t,ht⟩:=t30 (X:=X) l[i].code;cases t with
  |false=>simp[-Prod.exists,P5,hi,ht]
  |true=>
   by_cases h0:i=0
   ·subst h0;simp[-Prod.exists,P5,hi,ht];repeat' split
    all_goals simp[-Prod.exists,w1]
   ·obtain⟨p,hp⟩:∃p,p+1=i:=⟨i - 1,by omega⟩;have eF:p<l.length:=by omega
    have cU:IntKind.i64.wrap ((i:Int) - 1)=(p:Int):=by rw[bC _ (by omega)];omega
    simp[-Prod.exists,P5,hi,hw,ht,cU,eF];repeat' split
    all_goals simp[-Prod.exists]
 obtain⟨r,hl,hr⟩:=hl;simp only[fU] at hl;rcases hr with⟨n,rfl⟩|rfl;exact⟨n,aI (fc:=Ii) rfl rfl rfl (by simp[Ii,jI,jT,bA,hl])⟩;exact⟨0,aI (fc:=Ii) rfl rfl rfl (by simp[Ii,jI,jT,bA,hl])⟩
def u7 (d:Int):O X 81 [.i .i64 d]=some (.b (decide (0<=d/\d<=73048))):=by refine aI (fc:=NY) rfl rfl rfl ?_;by_cases h:0<=d<;>simp[NY,h]
def t35 (s:List UInt8):∃t,O X 89 [.s s]=some (.b t):=by
 by_cases h1:(s.length:Int)<1;exact⟨false,aI (fc:=DB) rfl rfl rfl (by simp[DB,h1])⟩;by_cases h2:(16:Int)<s.length;exact⟨false,aI (fc:=DB) rfl rfl rfl (by simp[DB,h1,h2])⟩;have h0:0<s.length:=by omega
 have hl:∃r,bP (O X) [0,3] W5 [(0,.s s),(3,.i .i64 (0:Nat))]=some r/\(r=(.r,[(2,.b false)])\/r=(.e 0,[])):=by
  refine lK (fun i=>[(0,.s s),(3,.i .i64 (i:Int))]) s.length _ (by simp) (fun i hi=> ?_) (by simp[W5]);have hw:=bC (i+1) (by omega);simp[-Prod.exists,W5,hi,hw];repeat' split
  all_goals simp[-Prod.exists]
 obtain⟨r,hl,hr⟩:=hl;simp only[fU] at hl;by_cases h3:(s[0].toNat:Int)<97;exact⟨false,aI (fc:=DB) rfl rfl rfl (by simp[DB,h1,h2,h0,h3])⟩;by_cases h4:(122:Int)<(s[0].toNat:Int);exact⟨false,aI (fc:=DB) rfl rfl rfl (by simp[DB,h1,h2,h0,h3,h4])⟩;rcases hr with rfl|rfl;exact⟨false,aI (fc:=DB) rfl rfl rfl (by simp[DB,h1,h2,h0,h3,h4,bA,hl])⟩;exact⟨true,aI (fc:=DB) rfl rfl rfl (by simp[DB,h1,h2,h0,h3,h4,bA,hl])⟩
def t36 (l:List Int)(h:l.length<=1000):∃t,O X 125 [.l (bQ l)]=some (.b t):=by
 have hl:∃r,bP (O X) [0,3] Wy [(0,.l (bQ l)),(3,.i .i64 ((0+1:Nat):Int))]=some r/\(r=(.r,[(2,.b false)])\/r=(.e 0,[])):=by
  refine lK (fun i=>[(0,.l (bQ l)),(3,.i .i64 ((i+1:Nat):Int))]) (l.length - 1) _ (by simp) (fun i hi=> ?_) ?_
  ·generalize hp:i+1=p;have eF:p<l.length:=by omega
   have iJ:i<l.length:=by omega
   have hw:IntKind.i64.wrap ((p:Int)+1)=((p+1:Nat):Int):=by rw[bC _ (by omega)];omega
   have cU:IntKind.i64.wrap ((p:Int) - 1)=(i:Int):=by rw[bC _ (by omega)];omega
   generalize ((p+1:Nat):Int)=p2 at hw⊢;simp[-Prod.exists,Wy,eF,iJ,hw,cU];repeat' split
   all_goals simp[-Prod.exists]
  have h1:¬(((l.length - 1+1:Nat):Int)<(l.length:Int)):=by omega
  generalize ((l.length - 1+1:Nat):Int)=z at h1⊢;simp[-Prod.exists,Wy,h1]
 obtain⟨r,hl,hr⟩:=hl;simp at hl;rcases hr with rfl|rfl;exact⟨false,aI (fc:=Sk) rfl rfl rfl (by simp[Sk,bA,hl])⟩;exact⟨true,aI (fc:=Sk) rfl rfl rfl (by simp[Sk,bA,hl])⟩
def YJ (c:iB)(hw:c.weekend.length<=1000)(hh:c.holidays.length<=1000):∃n,O X 75 [c.v]=some (.i .i64 n):=by
 obtain⟨t,ht⟩:=t35 (X:=X) c.name;obtain⟨u,hu⟩:=t36 (X:=X) c.weekend hw;obtain⟨v,hv⟩:=t36 (X:=X) c.holidays hh;have l1:∃r,bP (O X) [1,3] W8 [(1,.bx c.cells),(3,.i .i64 (0:Nat))]=some r/\((∃n,r=(.r,[(2,.i .i64 n)]))\/r=(.e 0,[(1,.bx c.cells)])):=by
  refine lK (fun i=>[(1,.bx c.cells),(3,.i .i64 (i:Int))]) c.weekend.length _ (by simp) (fun i hi=> ?_) (by simp[W8]);have hw:=bC (i+1) (by omega);simp[-Prod.exists,W8,hi,hw];repeat' split
  all_goals simp[-Prod.exists]
 have l2:∃r,bP (O X) [1,4] Sx [(1,.bx c.cells),(4,.i .i64 (0:Nat))]=some r/\((∃n,r=(.r,[(2,.i .i64 n)]))\/r=(.e 2,[(1,.bx c.cells)])):=by refine lK (fun i=>[(1,.bx c.cells),(4,.i .i64 (i:Int))]) c.holidays.length _ (by simp) (fun i hi=> ?_) (by simp[Sx]);have hw:=bC (i+1) (by omega);have gW:=u7 (X:=X) c.holidays[i];by_cases hc:0<=c.holidays[i]/\c.holidays[i]<=73048;rw[yS hc] at gW;simp[-Prod.exists,Sx,hi,hw,gW];rw[zT hc] at gW;simp[-Prod.exists,Sx,hi,gW]
 obtain⟨r1,l1,iI⟩:=l1;obtain⟨r2,l2,nP⟩:=l2;simp at l1 l2;have:∃y,O X 75 [c.v]=some y/\∃n,y= .i .i64 n:=by refine gZ (fc:=Ih) rfl rfl rfl ?_;cases t with|false=>simp[Ih,ht]|true=>rcases iI with⟨n,rfl⟩|rfl;simp[Ih,ht,bA,l1];by_cases h6:(6:Int)<(c.weekend.length:Int);simp[Ih,ht,bA,l1,h6];cases u with|false=>simp[Ih,ht,bA,l1,h6,hu]|true=>by_cases h4:(400:Int)<(c.holidays.length:Int);simp[Ih,ht,bA,l1,h6,hu,h4];rcases nP with⟨n,rfl⟩|rfl;simp[Ih,ht,bA,l1,l2,h6,hu,h4];cases v<;>simp[Ih,ht,bA,l1,l2,h6,hu,h4,hv]
 obtain⟨y,h,n,rfl⟩:=this;exact⟨n,h⟩
def OG (s:List UInt8):∃t,O X 128 [.s s]=some (.b t):=by
 by_cases h1:s=[];exact⟨false,aI (fc:=DO) rfl rfl rfl (by simp[DO,h1])⟩;by_cases h2:(16:Int)<s.length;exact⟨false,aI (fc:=DO) rfl rfl rfl (by simp[DO,h1,h2])⟩;have h0:0<s.length:=QF.2 h1;have hl:∃r,bP (O X) [0,3] Wx [(0,.s s),(3,.i .i64 ((0+1:Nat):Int))]=some r/\(r=(.r,[(2,.b false)])\/r=(.e 0,[])):=by
  refine lK (fun i=>[(0,.s s),(3,.i .i64 ((i+1:Nat):Int))]) (s.length - 1) _ (by simp) (fun i hi=> ?_) ?_
  ·generalize hp:i+1=p;have eF:p<s.length:=by omega
   have hw:IntKind.i64.wrap ((p:Int)+1)=((p+1:Nat):Int):=by rw[bC _ (by omega)];omega
   generalize ((p+1:Nat):Int)=p2 at hw⊢;simp[-Prod.exists,Wx,eF,hw];repeat' split
   all_goals simp[-Prod.exists]
  have h1:¬(((s.length - 1+1:Nat):Int)<(s.length:Int)):=by omega
  generalize ((s.length - 1+1:Nat):Int)=z at h1⊢;simp[-Prod.exists,Wx,h1]
 obtain⟨r,hl,hr⟩:=hl;simp at hl;by_cases h3:(s[0].toNat:Int)<97;exact⟨false,aI (fc:=DO) rfl rfl rfl (by simp[DO,h1,h2,h0,h3])⟩;by_cases h4:(122:Int)<(s[0].toNat:Int);exact⟨false,aI (fc:=DO) rfl rfl rfl (by simp[DO,h1,h2,h0,h3,h4])⟩;rcases hr with rfl|rfl;exact⟨false,aI (fc:=DO) rfl rfl rfl (by simp[DO,h1,h2,h0,h3,h4,bA,hl])⟩;exact⟨true,aI (fc:=DO) rfl rfl rfl (by simp[DO,h1,h2,h0,h3,h4,bA,hl])⟩
def Uo (s:List UInt8)(m lo:Int)(hm:m<=1000):∃t,O X 182 [.s s,.i .i64 m,.i .u8 lo]=some (.b t)/\(t=true->(s.length:Int)<=m):=by
 by_cases h1:m<(s.length:Int);exact⟨false,aI (fc:=Mn) rfl rfl rfl (by simp[Mn,h1]),by simp⟩;have hl:∃r,bP (O X) [0,2,7] Wp [(0,.s s),(2,.i .u8 lo),(7,.i .i64 (0:Nat))]=some r/\(r=(.r,[(6,.b false)])\/r=(.e 0,[])):=by
  refine lK (fun i=>[(0,.s s),(2,.i .u8 lo),(7,.i .i64 (i:Int))]) s.length _ (by simp) (fun i hi=> ?_) (by simp[Wp]);have hw:=bC (i+1) (by omega);simp[-Prod.exists,Wp,hi,hw];repeat' split
  all_goals simp[-Prod.exists]
 obtain⟨r,hl,hr⟩:=hl;simp only[fU] at hl;rcases hr with rfl|rfl;exact⟨false,aI (fc:=Mn) rfl rfl rfl (by simp[Mn,h1,bA,hl]),by simp⟩;exact⟨true,aI (fc:=Mn) rfl rfl rfl (by simp[Mn,h1,bA,hl]),fun _=>by omega⟩
def YF (s:List UInt8):∃t,O X 139 [.s s]=some (.b t)/\(t=true->s.length<=48):=by obtain⟨t,ht,hl⟩:=Uo (X:=X) s 48 33 (by omega);by_cases h:(1:Int)<=(s.length:Int);exact⟨t,aI (fc:=Sf) rfl rfl rfl (by simp[Sf,h,ht]),fun h=>by have:=hl h;omega⟩;exact⟨false,aI (fc:=Sf) rfl rfl rfl (by simp[Sf,h]),by simp⟩
def t64 (s:List UInt8):∃t,O X 139 [.s s]=some (.b t):=
 let ⟨t,h,_⟩:=YF (X:=X) s;⟨t,h⟩
def t49 (l:List fS)(s:List UInt8)(h:l.length<=1000):∃t,O X 87 [.l (aB fS.v l),.s s]=some (.b t):=by
 have hl:∃r,bP (O X) [0,1,5] W6 [(0,.l (aB fS.v l)),(1,.s s),(5,.i .i64 (0:Nat))]=some r/\(r=(.r,[(4,.b true)])\/r=(.e 0,[])):=by
  refine lK (fun i=>[(0,.l (aB fS.v l)),(1,.s s),(5,.i .i64 (i:Int))]) l.length _ (by simp) (fun i hi=> ?_) (by simp[W6]);have hw:=bC (i+1) (by omega);simp[-Prod.exists,W6,hi,hw];repeat' split
  all_goals simp[-Prod.exists]
 obtain⟨r,hl,hr⟩:=hl;simp only[fU] at hl;rcases hr with rfl|rfl;exact⟨true,aI (fc:=SI) rfl rfl rfl (by simp[SI,bA,hl])⟩;exact⟨false,aI (fc:=SI) rfl rfl rfl (by simp[SI,bA,hl])⟩
def bB1 (l:List fS)(i:Nat)(h:i<=l.length):aS (O X) (.slc 6 false true) [.l (aB fS.v l),.i .i64 i]=some (.l (aB fS.v (l.take i))):=by
 have hb:pK (aB fS.v l).length false true [.i .i64 (i:Int)]=some (0,i):=by
  have:(i:Int)<=((aB fS.v l).length:Int):=by simp;omega
  simp only[pK];rw[aY ⟨by omega,this⟩];simp
 have ha:(aB fS.v l).all (fun x=>x.cells.length==6)=true:=mU fun _=>rfl;simp only[aS,ha,jA,hb,eB,JK];simp[aB]
def t50 (b:cF):∃t,O X 88 [b.v]=some (.b t):=by
 have h1:=u7 (X:=X) b.from';have h2:=u7 (X:=X) b.to';generalize decide (0<=b.from'/\b.from'<=73048)=u at h1;generalize decide (0<=b.to'/\b.to'<=73048)=v at h2;have:∃y,O X 88 [b.v]=some y/\∃n,y= .b n:=by
  refine gZ (fc:=SH) rfl rfl rfl ?_;by_cases h4:b.kind=4<;>cases u<;>cases v<;>simp[SH,h1,h2,h4]<;>repeat' split
  all_goals omega
 obtain⟨y,h,n,rfl⟩:=this;exact⟨n,h⟩
def t59 (l:List k5):∃n,O X 172 [.l (aB k5.v l)]=some (.i .i64 n):=by
 by_cases h6:(6:Int)<(l.length:Int);exact⟨5,aI (fc:=DM) rfl rfl rfl (by simp[DM,h6])⟩;have l1:∃r,bP (O X) [0,3] Ws [(0,.l (aB k5.v l)),(3,.i .i64 (0:Nat))]=some r/\((∃n,r=(.r,[(2,.i .i64 n)]))\/r=(.e 0,[(0,.l (aB k5.v l))])):=by
  refine lK (fun i=>[(0,.l (aB k5.v l)),(3,.i .i64 (i:Int))]) l.length _ (by simp) (fun i hi=> ?_) (by simp[Ws]);have hw:=bC (i+1) (by omega);simp[-Prod.exists,Ws,hi,hw];repeat' split
  all_goals simp[-Prod.exists]
 have l2:∃r,bP (O X) [0,4] Wr [(0,.l (aB k5.v l)),(4,.i .i64 ((0+1:Nat):Int))]=some r/\((∃n,r=(.r,[(2,.i .i64 n)]))\/r=(.e 2,[(0,.l (aB k5.v l))])):=by
  refine lK (fun i=>[(0,.l (aB k5.v l)),(4,.i .i64 ((i+1:Nat):Int))]) (l.length - 1) _ (by simp) (fun i hi=> ?_) ?_
  ·generalize hp:i+1=p;have eF:p<l.length:=by omega
   have iJ:i<l.length:=by omega
   have hw:IntKind.i64.wrap ((p:Int)+1)=((p+1:Nat):Int):=by rw[bC _ (by omega)];omega
   have cU:IntKind.i64.wrap ((p:Int) - 1)=(i:Int):=by rw[bC _ (by omega)];omega
   generalize ((p+1:Nat):Int)=p2 at hw⊢;simp[-Prod.exists,Wr,eF,iJ,hw,cU];repeat' split
   all_goals simp[-Prod.exists]
  have h1:¬(((l.length - 1+1:Nat):Int)<(l.length:Int)):=by omega
  generalize ((l.length - 1+1:Nat):Int)=z at h1⊢;simp[-Prod.exists,Wr,h1]
 obtain⟨r1,l1,iI⟩:=l1;obtain⟨r2,l2,nP⟩:=l2;simp at l1 l2;rcases iI with⟨n,rfl⟩|rfl;exact⟨n,aI (fc:=DM) rfl rfl rfl (by simp[DM,h6,bA,l1])⟩;rcases nP with⟨n,rfl⟩|rfl;exact⟨n,aI (fc:=DM) rfl rfl rfl (by simp[DM,h6,bA,l1,l2])⟩;by_cases h0:0<l.length;by_cases hf:l[0].from'=0;exact⟨0,aI (fc:=DM) rfl rfl rfl (by simp[DM,h6,bA,l1,l2,h0,hf])⟩;exact⟨1,aI (fc:=DM) rfl rfl rfl (by simp[DM,h6,bA,l1,l2,h0,hf])⟩;exact⟨0,aI (fc:=DM) rfl rfl rfl (by simp[DM,h6,bA,l1,l2,h0])⟩
def Uq (x:zP):∃n,O X 131 [x.v]=some (.i .i64 n):=by
 obtain⟨n,hn⟩:=t59 (X:=X) x.tiers;have:∃y,O X 131 [x.v]=some y/\∃n,y= .i .i64 n:=by
  refine gZ (fc:=WO) rfl rfl rfl ?_;by_cases h0:n=0
  ·subst h0;simp[WO,hn];repeat' split
   all_goals simp
  simp[WO,hn,h0]
 obtain⟨y,h,n,rfl⟩:=this;exact⟨n,h⟩
def ZO (t:Int):O X 249 [.i .i64 t]=some (.b (decide (1<=t/\t<=5))):=by refine aI (fc:=NN) rfl rfl rfl ?_;by_cases h:1<=t<;>simp[NN,h]
def Ur (t:Int):∃b,O X 289 [.i .i64 t]=some (.b b):=by
 have:∃y,O X 289 [.i .i64 t]=some y/\∃n,y= .b n:=by refine gZ (fc:=NU) rfl rfl rfl ?_;simp[NU];omega
 obtain⟨y,h,n,rfl⟩:=this;exact⟨n,h⟩
def cX6 (a b:Int):∃n u,O X 302 [.i .i64 a,.i .i64 b]=some (.t [.i .i64 n,.b u]):=by
 obtain⟨u,hu⟩:=Ur (X:=X) a;obtain⟨v,hv⟩:=Ur (X:=X) b;have:∃y,O X 302 [.i .i64 a,.i .i64 b]=some y/\∃n u,y= .t [.i .i64 n,.b u]:=by
  refine gZ (fc:=NV) rfl rfl rfl ?_;by_cases fW:a=b<;>cases u<;>cases v<;>simp[NV,hu,hv,fW]<;>repeat' split
  all_goals simp
 obtain⟨y,h,n,u,rfl⟩:=this;exact⟨n,u,h⟩
def t99 (op:Int):∃n,O X 270 [.i .i64 op]=some (.i .i64 n)/\n<=3:=by
 have:∃y,O X 270 [.i .i64 op]=some y/\∃n,y= .i .i64 n/\n<=3:=by
  refine gZ (fc:=NO) rfl rfl rfl ?_;simp[NO];repeat' split
  all_goals simp
 obtain⟨y,h,n,rfl,hn⟩:=this;exact⟨n,h,hn⟩
def cY2 (op:Int):∃n,O X 271 [.i .i64 op]=some (.i .i64 n):=by
 have:∃y,O X 271 [.i .i64 op]=some y/\∃n,y= .i .i64 n:=by
  refine gZ (fc:=NQ) rfl rfl rfl ?_;simp[NQ];repeat' split
  all_goals simp
 obtain⟨y,h,n,rfl⟩:=this;exact⟨n,h⟩
def KU {α:Type}{p:Prop}[Decidable p]{a b:Option α}{R:α->Prop}:(∃y,(if p then a else b)=some y/\R y)=if p then∃y,a=some y/\R y else∃y,b=some y/\R y:=by split<;>rfl
def IB (y:V):Prop:=∃n u,y= .t [.i .i64 n,.b u]
@[simp] def gR0 (n:Int)(u:Bool):IB (.t [.i .i64 n,.b u])=True:=yT ⟨n,u,rfl⟩
def II (y:V):Prop:=∃n u,y= .t [.i .i64 n,.i .i64 u]
@[simp] def gQ8 (n u:Int):II (.t [.i .i64 n,.i .i64 u])=True:=yT ⟨n,u,rfl⟩
def I1 (y:V):Prop:=∃n,y= .i .i64 n
@[simp] def gR1 (n:Int):I1 (.i .i64 n)=True:=yT ⟨n,rfl⟩
def B1 (y:V):Prop:=∃n,y= .b n
@[simp] def gR4 (n:Bool):B1 (.b n)=True:=yT ⟨n,rfl⟩
set_option maxHeartbeats 2000000 in
def cX7 (op a b:Int):∃n u,O X 290 [.i .i64 op,.i .i64 a,.i .i64 b]=some (.t [.i .i64 n,.b u]):=by
 obtain⟨u,hu⟩:=Ur (X:=X) a;obtain⟨m,v,hv⟩:=cX6 (X:=X) a b;have:∃y,O X 290 [.i .i64 op,.i .i64 a,.i .i64 b]=some y/\IB y:=by refine gZ (fc:=WH) rfl rfl rfl ?_;by_cases fW:a=b;subst fW;simp[WH,hu,hv,KU];simp[WH,hu,hv,fW,KU]
 obtain⟨y,h,n,u,rfl⟩:=this;exact⟨n,u,h⟩
def bO4 (a b:Int)(l:List Int):aS (O X) (.ix 1) [.l (bQ (a::b::l)),.i .i64 1]=some (.r [.i .i64 b]):=rfl
def eD9 (a b c:Int)(l:List Int):aS (O X) (.ix 1) [.l (bQ (a::b::c::l)),.i .i64 2]=some (.r [.i .i64 c]):=rfl
def cX8 (op:Int)(l:List Int):∃n u,O X 275 [.i .i64 op,.l (bQ l)]=some (.t [.i .i64 n,.b u]):=by
 have:∃y,O X 275 [.i .i64 op,.l (bQ l)]=some y/\IB y:=by
  refine gZ (fc:=P0) rfl rfl rfl ?_;by_cases h1:l.length=1;obtain⟨a,rfl⟩:=List.length_eq_one_iff.1 h1;obtain⟨u,hu⟩:=Ur (X:=X) a;simp[P0,hu,KU];by_cases h2:l.length=2
  ·match l,h2 with|[a,b],_=>obtain⟨n,u,hu⟩:=cX7 (X:=X) op a b;simp[P0,hu,bO4]
  by_cases h3:l.length=3
  ·match l,h3 with|[a,b,c],_=>simp[P0,bO4,eD9,KU]
  have jI:¬(l.length:Int)=1:=by omega
  have jT:¬(l.length:Int)=2:=by omega
  have EL:¬(l.length:Int)=3:=by omega
  simp[P0,jI,jT,EL]
 obtain⟨y,h,n,u,rfl⟩:=this;exact⟨n,u,h⟩
def t98 (op:Int)(l:List Int):∃n u,O X 250 [.i .i64 op,.l (bQ l)]=some (.t [.i .i64 n,.b u]):=by
 by_cases h3:(3:Int)<(l.length:Int);exact⟨0,false,aI (fc:=Io) rfl rfl rfl (by simp[Io,h3])⟩;have hl:∃r,bP (O X) [0,1,6] TC [(0,.i .i64 op),(1,.l (bQ l)),(6,.i .i64 (0:Nat))]=some r/\(r=(.r,[(4,.i .i64 0),(5,.b false)])\/r=(.e 0,[(0,.i .i64 op),(1,.l (bQ l))])):=by refine lK (fun i=>[(0,.i .i64 op),(1,.l (bQ l)),(6,.i .i64 (i:Int))]) l.length _ (by simp) (fun i hi=> ?_) (by simp[TC]);have hw:=bC (i+1) (by omega);have oR:=ZO (X:=X) l[i];by_cases hc:1<=l[i]/\l[i]<=5;rw[yS hc] at oR;simp[-Prod.exists,TC,hi,hw,oR];rw[zT hc] at oR;simp[-Prod.exists,TC,hi,oR]
 obtain⟨r,hl,hr⟩:=hl;simp only[fU] at hl;obtain⟨n,u,h104⟩:=cX8 (X:=X) op l;rcases hr with rfl|rfl;exact⟨0,false,aI (fc:=Io) rfl rfl rfl (by simp[Io,h3,bA,hl])⟩;cases u with|false=>exact⟨0,false,aI (fc:=Io) rfl rfl rfl (by simp[Io,h3,bA,hl,h104])⟩|true=>exact⟨n,true,aI (fc:=Io) rfl rfl rfl (by simp[Io,h3,bA,hl,h104])⟩
def t88 (s:List UInt8)(h:s.length<=1000):∃t,O X 143 [.s s]=some (.b t):=by
 have hl:∃r,bP (O X) [0,3] Wv [(0,.s s),(3,.i .i64 (0:Nat))]=some r/\(r=(.r,[(2,.b false)])\/r=(.e 0,[])):=by
  refine lK (fun i=>[(0,.s s),(3,.i .i64 (i:Int))]) s.length _ (by simp) (fun i hi=> ?_) (by simp[Wv]);have hw:=bC (i+1) (by omega);simp[-Prod.exists,Wv,hi,hw];repeat' split
  all_goals simp[-Prod.exists]
 obtain⟨r,hl,hr⟩:=hl;simp only[fU] at hl;rcases hr with rfl|rfl;exact⟨false,aI (fc:=Se) rfl rfl rfl (by simp[Se,bA,hl])⟩;exact⟨true,aI (fc:=Se) rfl rfl rfl (by simp[Se,bA,hl])⟩
def aY4 (s:List UInt8):∃t,O X 228 [.s s]=some (.b t)/\(t=true->s.length=3):=by
 by_cases h3:(s.length:Int)=3
 ·have hl:∃r,bP (O X) [0,3] Wj [(0,.s s),(3,.i .i64 (0:Nat))]=some r/\(r=(.r,[(2,.b false)])\/r=(.e 0,[])):=by
   refine lK (fun i=>[(0,.s s),(3,.i .i64 (i:Int))]) s.length _ (by simp) (fun i hi=> ?_) (by simp[Wj]);have hw:=bC (i+1) (by omega);simp[-Prod.exists,Wj,hi,hw];repeat' split
   all_goals simp[-Prod.exists]
  obtain⟨r,hl,hr⟩:=hl;simp only[fU] at hl;rcases hr with rfl|rfl;exact⟨false,aI (fc:=Ml) rfl rfl rfl (by simp[Ml,h3,bA,hl]),fun _=>by omega⟩;exact⟨true,aI (fc:=Ml) rfl rfl rfl (by simp[Ml,h3,bA,hl]),fun _=>by omega⟩
 exact⟨false,aI (fc:=Ml) rfl rfl rfl (by simp[Ml,h3]),by simp⟩
def t78 (s:List UInt8):∃t,O X 228 [.s s]=some (.b t):=
 let ⟨t,h,_⟩:=aY4 (X:=X) s;⟨t,h⟩
def cW4 (x:bG):∃n,O X 206 [x.v]=some (.i .i64 n)/\(n=0->x.currency.length=3):=by
 obtain⟨t,ht,hl⟩:=aY4 (X:=X) x.currency;have:∃y,O X 206 [x.v]=some y/\∃n,y= .i .i64 n/\(n=0->x.currency.length=3):=by
  have hb:∃y,O X 206 [x.v]=some y/\∃n,y= .i .i64 n/\(n=0->t=true):=by refine gZ (fc:=HF) rfl rfl rfl ?_;cases t<;>simp[HF,ht]<;>(repeat' split)<;>simp
  obtain⟨y,h,n,rfl,h0⟩:=hb;exact⟨_,h,n,rfl,fun e=>hl (h0 e)⟩
 obtain⟨y,h,n,rfl,hn⟩:=this;exact⟨n,h,hn⟩
def t66 (x:bG):∃n,O X 206 [x.v]=some (.i .i64 n):=by
 obtain⟨t,ht⟩:=t78 (X:=X) x.currency;have:∃y,O X 206 [x.v]=some y/\I1 y:=by refine gZ (fc:=HF) rfl rfl rfl ?_;cases t<;>simp[HF,ht]
 obtain⟨y,h,n,rfl⟩:=this;exact⟨n,h⟩
def aS8 (z:Int):0<=IntKind.u8.wrap z/\IntKind.u8.wrap z<256:=by rw[IntKind.wrap_u8];omega
def aV1 (m:Int)(h0:0<=m)(h1:m<=100000):0<=(IntKind.i64.wrap m).tmod 97/\(IntKind.i64.wrap m).tmod 97<97:=by rw[bC _ (by omega),GN h0];omega
def dI5 (n z:Int)(h0:0<=n)(h1:n<97):0<=(IntKind.i64.wrap (IntKind.i64.wrap (10*n)+IntKind.i64.wrap (IntKind.u8.wrap z))).tmod 97/\(IntKind.i64.wrap (IntKind.i64.wrap (10*n)+IntKind.i64.wrap (IntKind.u8.wrap z))).tmod 97<97:=by have:=aS8 z;rw[bC (10*n) (by omega),bC (IntKind.u8.wrap z) (by omega)];exact aV1 _ (by omega) (by omega)
def dI4 (n z:Int)(h0:0<=n)(h1:n<97):0<=(IntKind.i64.wrap (IntKind.i64.wrap (IntKind.i64.wrap (100*n)+IntKind.i64.wrap (IntKind.u8.wrap z))+10)).tmod 97/\(IntKind.i64.wrap (IntKind.i64.wrap (IntKind.i64.wrap (100*n)+IntKind.i64.wrap (IntKind.u8.wrap z))+10)).tmod 97<97:=by have:=aS8 z;rw[bC (100*n) (by omega),bC (IntKind.u8.wrap z) (by omega),bC (100*n+IntKind.u8.wrap z) (by omega)];exact aV1 _ (by omega) (by omega)
def t89 (s:List UInt8)(h:s.length<=1000):∃n,O X 144 [.s s]=some (.i .i64 n)/\0<=n/\n<97:=by
 have hl:∃r,bP (O X) [0,3,4] TP [(0,.s s),(3,.i .i64 0),(4,.i .i64 0)]=some r/\(∃n:Int,r=(.e 0,[(3,.i .i64 n)])/\0<=n/\n<97):=by refine dW (fun i aA=>∃n:Int,aA=[(0,.s s),(3,.i .i64 n),(4,.i .i64 (i:Int))]/\0<=n/\n<97) s.length _ (fun i aA hI=> ?_) (fun i aA hi hI=> ?_) (fun aA hI=> ?_) s.length 0 _ (by omega) ⟨0,by simp,by omega,by omega⟩;obtain⟨n,rfl,_⟩:=hI;simp;obtain⟨n,rfl,h0,h1⟩:=hI;left;have hw:=bC (i+1) (by omega);by_cases hc:(s[i].toNat:Int)<=57;simp[TP,hi,hw,hc];exact dI5 _ _ h0 h1;simp[TP,hi,hw,hc];exact dI4 _ _ h0 h1;obtain⟨n,rfl,h0,h1⟩:=hI;exact⟨(.e 0,[(3,.i .i64 n)]),by simp[TP],by simp,n,rfl,h0,h1⟩
 obtain⟨_,hl,n,rfl,h0,h1⟩:=hl;exact⟨n,aI (fc:=F') rfl rfl rfl (by simp[F',bA,hl]),h0,h1⟩
def aE8 (q:Int)(h0:0<=q)(h1:q<10):∃d,aS (O X) (.slcs true true) [.s [48,49,50,51,52,53,54,55,56,57],.i .i64 q,.i .i64 (q+1)]=some (.s [d]):=by
 have:q=0\/q=1\/q=2\/q=3\/q=4\/q=5\/q=6\/q=7\/q=8\/q=9:=by omega
 rcases this with h|h|h|h|h|h|h|h|h|h<;>rw[h]<;>exact⟨_,rfl⟩
def t77 (s:List UInt8):∃z n,O X 94 [.s s]=some (.t [.s z,.i .i64 n]):=by
 by_cases h1:(s.length:Int)<1;exact⟨[],5,aI (fc:=Ie) rfl rfl rfl (by simp[Ie,h1])⟩;by_cases h2:(46:Int)<(s.length:Int);exact⟨[],5,aI (fc:=Ie) rfl rfl rfl (by simp[Ie,h1,h2])⟩;obtain⟨t,ht⟩:=t88 (X:=X) s (by omega);cases t with
 |false=>exact⟨[],2,aI (fc:=Ie) rfl rfl rfl (by simp[Ie,h1,h2,ht])⟩
 |true=>
  obtain⟨n,hn,h0,oR⟩:=t89 (X:=X) (s++[48,48]) (by rw[kH];simp;omega);have hw:IntKind.i64.wrap (98 - n)=98 - n:=bC _ (by omega);generalize hk:98 - n=k at hw;have:∃y,O X 94 [.s s]=some y/\∃z n,y= .t [.s z,.i .i64 n]:=by
   refine gZ (fc:=Ie) rfl rfl rfl ?_;have bT:s.length<=9223372036854775805:=by omega
   have Vg:s.length<=9223372036854775806:=by omega
   have hq:IntKind.i64.wrap (k.tdiv 10)=k / 10:=by rw[N8 (by omega)];exact bC _ (by omega)
   have hr:k.tmod 10=k % 10:=GN (by omega);have hq1:IntKind.i64.wrap (k / 10+1)=k / 10+1:=bC _ (by omega);have iI:IntKind.i64.wrap (k % 10+1)=k % 10+1:=bC _ (by omega);obtain⟨d,hd⟩:=aE8 (X:=X) (k / 10) (by omega) (by omega);obtain⟨e,he⟩:=aE8 (X:=X) (k % 10) (by omega) (by omega);generalize k / 10=q at hq hq1 hd;generalize k % 10=r at hr iI he;simp[Ie,h1,h2,ht,hn,hk,hw,hq,hr,hq1,iI,hd,he,bT,Vg]
  obtain⟨y,h,z,m,rfl⟩:=this;exact⟨z,m,h⟩
def t62 (id:Int):∃z,O X 51 [.i .i64 id]=some (.s z):=by
 by_cases h1:id<1000;exact⟨[],aI (fc:=Mb) rfl rfl rfl (by simp[Mb,h1])⟩;by_cases h2:99999999<id;exact⟨[],aI (fc:=Mb) rfl rfl rfl (by simp[Mb,h1,h2])⟩;have hl:∃r,bP (O X) [0,3,4] Wa [(0,.i .i64 id),(3,.s []),(4,.i .i64 0)]=some r/\(∃z:List UInt8,r=(.e 0,[(3,.s z)])/\z.length<=8):=by
  refine dW (fun i aA=>∃(m:Int) (z:List UInt8),aA=[(0,.i .i64 m),(3,.s z),(4,.i .i64 (i:Int))]/\0<=m/\m<=99999999/\z.length=i) 8 _ (fun i aA hI=> ?_) (fun i aA hi hI=> ?_) (fun aA hI=> ?_) 8 0 _ (by omega) ⟨id,[],by simp,by omega,by omega,rfl⟩;obtain⟨m,z,rfl,_⟩:=hI;simp;obtain⟨m,z,rfl,h0,h1,hz⟩:=hI;left;have hw:=bC (i+1) (by omega);have kO:(i:Int)<8:=by omega
  have hq:IntKind.i64.wrap (m.tdiv 10)=m / 10:=by rw[N8 (by omega)];exact bC _ (by omega)
  have hr:m.tmod 10=m % 10:=GN (by omega);have iI:IntKind.i64.wrap (m % 10+1)=m % 10+1:=bC _ (by omega);obtain⟨e,he⟩:=aE8 (X:=X) (m % 10) (by omega) (by omega);have hm:0<=m / 10/\m / 10<=99999999:=by omega
  generalize m / 10=q at hq hm;generalize m % 10=r at hr iI he;have bT:1+i<=9223372036854775807:=by omega
  simp[Wa,kO,hw,hq,hr,iI,he,bT,hz];exact⟨q,e::z,⟨rfl,rfl⟩,hm.1,hm.2,by simp[hz]⟩;obtain⟨m,z,rfl,h0,h1,hz⟩:=hI;exact⟨(.e 0,[(3,.s z)]),by simp[Wa],by simp,z,rfl,by omega⟩
 obtain⟨_,hl,z,rfl,hz⟩:=hl;obtain⟨y,n,hs⟩:=t77 (X:=X) ([67,66]++z);have bT:2+z.length<=9223372036854775807:=by omega
 exact⟨y,aI (fc:=Mb) rfl rfl rfl (by
  simp at hs;simp[Mb,h1,h2,bA,hl,hs,bT])⟩
def t44 (a:iN):∃t,O X 82 [a.v]=some (.b t):=by
 obtain⟨z,hz⟩:=t62 (X:=X) a.id;have gW:=u7 (X:=X) a.opened;generalize decide (0<=a.opened/\a.opened<=73048)=u at gW;have:∃y,O X 82 [a.v]=some y/\B1 y:=by refine gZ (fc:=SK) rfl rfl rfl ?_;by_cases h1:1000<=a.id;by_cases h2:a.id<=99999999;cases u<;>simp[SK,hz,gW,h1,h2];simp[SK,h1,h2];simp[SK,h1]
 obtain⟨y,h,n,rfl⟩:=this;exact⟨n,h⟩
def t34 (a b:dO):∃t,O X 127 [a.v,b.v]=some (.b t):=by
 have:∃y,O X 127 [a.v,b.v]=some y/\B1 y:=by refine gZ (fc:=WQ) rfl rfl rfl ?_;by_cases h1:Op.bytesLess a.name b.name=true;simp[WQ,h1];by_cases h2:a.name=b.name<;>simp[WQ,h1,h2]
 obtain⟨y,h,n,rfl⟩:=this;exact⟨n,h⟩
def t11 (l:List dO):∃n,O X 79 [.l (aB dO.v l)]=some (.i .i64 n):=by
 by_cases h6:(64:Int)<(l.length:Int);exact⟨5,aI (fc:=Ig) rfl rfl rfl (by simp[Ig,h6])⟩;have l1:∃r,bP (O X) [0,3] W7 [(0,.l (aB dO.v l)),(3,.i .i64 ((0+1:Nat):Int))]=some r/\((∃n,r=(.r,[(2,.i .i64 n)]))\/r=(.e 0,[(0,.l (aB dO.v l))])):=by
  refine lK (fun i=>[(0,.l (aB dO.v l)),(3,.i .i64 ((i+1:Nat):Int))]) (l.length - 1) _ (by simp) (fun i hi=> ?_) ?_;generalize hp:i+1=p;have eF:p<l.length:=by omega
  have iJ:i<l.length:=by omega
  have hw:IntKind.i64.wrap ((p:Int)+1)=((p+1:Nat):Int):=by rw[bC _ (by omega)];omega
  have cU:IntKind.i64.wrap ((p:Int) - 1)=(i:Int):=by rw[bC _ (by omega)];omega
  generalize ((p+1:Nat):Int)=p2 at hw⊢;obtain⟨t,ht⟩:=t34 (X:=X) l[i] l[p];simp only[dO.v] at ht;cases t<;>simp[-Prod.exists,W7,eF,iJ,hw,cU,ht];have h1:¬(((l.length - 1+1:Nat):Int)<(l.length:Int)):=by omega
  generalize ((l.length - 1+1:Nat):Int)=z at h1⊢;simp[-Prod.exists,W7,h1]
 have l2:∃r,bP (O X) [0,4] Sv [(0,.l (aB dO.v l)),(4,.i .i64 ((0+1:Nat):Int))]=some r/\((∃n,r=(.r,[(2,.i .i64 n)]))\/r=(.e 2,[])):=by
  refine lK (fun i=>[(0,.l (aB dO.v l)),(4,.i .i64 ((i+1:Nat):Int))]) (l.length - 1) _ (by simp) (fun i hi=> ?_) ?_;generalize hp:i+1=p;have eF:p<l.length:=by omega
  have iJ:i<l.length:=by omega
  have hw:IntKind.i64.wrap ((p:Int)+1)=((p+1:Nat):Int):=by rw[bC _ (by omega)];omega
  have cU:IntKind.i64.wrap ((p:Int) - 1)=(i:Int):=by rw[bC _ (by omega)];omega
  generalize ((p+1:Nat):Int)=p2 at hw⊢;by_cases h1:l[p].name=l[i].name;by_cases h2:l[p].currency=l[i].currency<;>simp[-Prod.exists,Sv,eF,iJ,hw,cU,h1,h2];simp[-Prod.exists,Sv,eF,iJ,hw,cU,h1];have h1:¬(((l.length - 1+1:Nat):Int)<(l.length:Int)):=by omega
  generalize ((l.length - 1+1:Nat):Int)=z at h1⊢;simp[-Prod.exists,Sv,h1]
 obtain⟨r1,l1,iI⟩:=l1;obtain⟨r2,l2,nP⟩:=l2;simp at l1 l2;rcases iI with⟨n,rfl⟩|rfl;exact⟨n,aI (fc:=Ig) rfl rfl rfl (by simp[Ig,h6,bA,l1])⟩;rcases nP with⟨n,rfl⟩|rfl;exact⟨n,aI (fc:=Ig) rfl rfl rfl (by simp[Ig,h6,bA,l1,l2])⟩;exact⟨0,aI (fc:=Ig) rfl rfl rfl (by simp[Ig,h6,bA,l1,l2])⟩
def p0:dO:=⟨[],[],[],0,0,0,0,⟨[],false,0,0,false⟩,⟨[],false,0,0,false⟩,[],[]⟩
def t63 (l:List dO)(s:List UInt8)(d:Int)(h:l.length<=1000):∃(p:dO) (u:Bool),O X 134 [.l (aB dO.v l),.s s,.i .i64 d]=some (.t [p.v,.b u]):=by
 have hl:∃r,bP (O X) [0,1,2,6,8,9] Ke [(0,.l (aB dO.v l)),(1,.s s),(2,.i .i64 d),(6,.bx p0.cells),(8,.i .i64 (-1)),(9,.i .i64 0)]=some r/\(∃a:Int,r=(.e 0,[(0,.l (aB dO.v l)),(6,.bx p0.cells),(8,.i .i64 a)])/\(a= -1\/∃k:Nat,a=k/\k<l.length)):=by refine dW (fun i aA=>∃a:Int,aA=[(0,.l (aB dO.v l)),(1,.s s),(2,.i .i64 d),(6,.bx p0.cells),(8,.i .i64 a),(9,.i .i64 (i:Int))]/\(a= -1\/∃k:Nat,a=k/\k<l.length)) l.length _ (fun i aA hI=> ?_) (fun i aA hi hI=> ?_) (fun aA hI=> ?_) l.length 0 _ (by omega) ⟨-1,by simp,.inl rfl⟩;obtain⟨a,rfl,_⟩:=hI;simp;obtain⟨a,rfl,ha⟩:=hI;left;have hw:=bC (i+1) (by omega);by_cases h1:l[i].name=s;by_cases h2:l[i].from'<=d;rcases ha with rfl|⟨k,rfl,hk⟩;simp[Ke,hi,hw,h1,h2];exact⟨i,rfl,hi⟩;by_cases h3:l[k].from'<l[i].from';simp[Ke,hi,hk,hw,h1,h2,h3];exact⟨i,rfl,hi⟩;simp[Ke,hi,hk,hw,h1,h2,h3];exact⟨k,rfl,hk⟩;exact⟨[(0,.l (aB dO.v l)),(1,.s s),(2,.i .i64 d),(6,.bx p0.cells),(8,.i .i64 a),(9,.i .i64 ((i+1:Nat):Int))],by simp[Ke,hi,hw,h1,h2],a,rfl,ha⟩;exact⟨[(0,.l (aB dO.v l)),(1,.s s),(2,.i .i64 d),(6,.bx p0.cells),(8,.i .i64 a),(9,.i .i64 ((i+1:Nat):Int))],by simp[Ke,hi,hw,h1],a,rfl,ha⟩;obtain⟨a,rfl,ha⟩:=hI;exact⟨(.e 0,[(0,.l (aB dO.v l)),(6,.bx p0.cells),(8,.i .i64 a)]),by simp[Ke],by simp,a,rfl,ha⟩
 obtain⟨_,hl,a,rfl,ha⟩:=hl;rcases ha with rfl|⟨k,rfl,hk⟩;refine⟨p0,false,aI (fc:=Si) rfl rfl rfl ?_⟩;simp[p0,dO.cells] at hl;simp[Si,bA,hl,p0];refine⟨l[k],true,aI (fc:=Si) rfl rfl rfl ?_⟩;simp[p0,dO.cells] at hl;simp[Si,bA,hl,hk]
def t45 (b:cD)(a:iN)(h:b.products.length<=1000):∃n,O X 83 [b.v,a.v]=some (.i .i64 n):=by obtain⟨t,ht⟩:=OG (X:=X) a.owner;obtain⟨p,u,hp⟩:=t63 (X:=X) b.products a.product a.opened h;cases t with|false=>exact⟨4,aI (fc:=M7) rfl rfl rfl (by simp[M7,ht])⟩|true=>cases u with|false=>exact⟨11,aI (fc:=M7) rfl rfl rfl (by simp[M7,ht,hp])⟩|true=>exact⟨0,aI (fc:=M7) rfl rfl rfl (by simp[M7,ht,hp])⟩
def t70 (b:cD)(id d:Int)(h:b.accounts.length<=1000):∃t,O X 181 [b.v,.i .i64 id,.i .i64 d]=some (.b t)/\(t=true->(mP b.accounts id).isSome=true):=by
 have hf:=bV8 (X:=X) b id h;cases ha:mP b.accounts id with
 |none=>rw[ha] at hf;simp[aV,a0] at hf;exact⟨false,aI (fc:=S9) rfl rfl rfl (by simp[S9,hf]),fun h=>by cases h⟩
 |some i=>
  obtain⟨hi,_⟩:=Lu ha;rw[ha] at hf;simp[aV,hi] at hf;have:∃y,O X 181 [b.v,.i .i64 id,.i .i64 d]=some y/\B1 y:=by refine gZ (fc:=S9) rfl rfl rfl ?_;simp[S9,hf]
  obtain⟨y,h,n,rfl⟩:=this;exact⟨n,h,fun _=>rfl⟩
abbrev oL (l:List (List UInt8)):List V:=aB V.s l
noncomputable def Ng:List (List UInt8):=match bI (fun _ _=>none) NT.body (kR 0 []) with
 |some (_,(_,.ow _ es)::_)=>es.map fun | .s x=>x|_=>[]
 |_=>[]
def dP7:O X 288 []=some (.ow 9 (oL Ng)):=aI (fc:=NT) rfl rfl rfl (by kernel_rfl)
def cG7:Ng.length<=100:=by decide+kernel
def cX9 (s:List UInt8):∃t,O X 274 [.s s]=some (.b t):=by
 have bT:=cG7;have h105:=dP7 (X:=X);generalize Ng=l at bT h105;have hl:∃r,bP (O X) [0,3,4] Wc [(0,.s s),(3,.ow 9 (oL l)),(4,.i .i64 (0:Nat))]=some r/\(r=(.r,[(2,.b true)])\/r=(.e 0,[])):=by
  refine lK (fun i=>[(0,.s s),(3,.ow 9 (oL l)),(4,.i .i64 (i:Int))]) l.length _ (by simp) (fun i hi=> ?_) (by simp[Wc]);have hw:=bC (i+1) (by omega);simp[-Prod.exists,Wc,hi,hw];repeat' split
  all_goals simp[-Prod.exists]
 obtain⟨r,hl,hr⟩:=hl;simp only[fU] at hl;rcases hr with rfl|rfl;exact⟨true,aI (fc:=SX) rfl rfl rfl (by simp[SX,bA,h105,hl])⟩;exact⟨false,aI (fc:=SX) rfl rfl rfl (by simp[SX,bA,h105,hl])⟩
def t96 (s:List UInt8):∃t,O X 248 [.s s]=some (.b t):=by
 have h1:=eQ4 (X:=X) s;obtain⟨t,ht⟩:=cX9 (X:=X) s;generalize C6 s=u at h1;have:∃y,O X 248 [.s s]=some y/\B1 y:=by refine gZ (fc:=NM) rfl rfl rfl ?_;cases u<;>simp[NM,h1,ht]
 obtain⟨y,h,n,rfl⟩:=this;exact⟨n,h⟩
def aS9 (z:Int):0<=IntKind.u64.wrap z/\IntKind.u64.wrap z<18446744073709551616:=by rw[IntKind.wrap_u64];omega
def eS3 (o:aU)(d:Int)(h0:0<=d)(h1:d<10):∃c,aS o (.slcs true true) [.s [48,49,50,51,52,53,54,55,56,57],.i .u64 d,.i .u64 (IntKind.u64.wrap (d+1))]=some (.s [c]):=by
 have hw:IntKind.u64.wrap (d+1)=d+1:=by rw[IntKind.wrap_u64];omega
 rw[hw];have:d=0\/d=1\/d=2\/d=3\/d=4\/d=5\/d=6\/d=7\/d=8\/d=9:=by omega
 rcases this with rfl|rfl|rfl|rfl|rfl|rfl|rfl|rfl|rfl|rfl<;>exact⟨_,rfl⟩
def aY7 (m:Int)(h0:0<=m)(h1:m<18446744073709551616):∃s:List UInt8,O X 229 [.i .u64 m]=some (.s s)/\s.length<=20:=by
 have hl:=dW (o:=O X) (kin:=[0,3]) (c:=P8) (fun i aA=>∃(m:Int) (s:List UInt8),aA=[(0,.i .u64 m),(3,.s s)]/\0<=m/\m<((10 ^ (20 - i):Nat):Int)/\s.length=i) 20 (fun r=>∃s:List UInt8,r=(.e 0,[(3,.s s)])/\s.length<=20) (fun i aA hI=>by obtain⟨m,s,rfl,_⟩:=hI;simp) (fun i aA hi hI=>by
  obtain⟨m,s,rfl,h0,h1,hs⟩:=hI;by_cases hc:s=[]\/0<m;left;obtain⟨c,hslc⟩:=eS3 (O X) (m.tmod 10) (by rw[GN h0];omega) (by rw[GN h0];omega);have hq:IntKind.u64.wrap (m.tdiv 10)=m / 10:=by
   rw[N8 h0,IntKind.wrap_u64];have oT:10 ^ (20 - i)<=10 ^ 20:=Nat.pow_le_pow_right (by decide) (by omega);have h20:10 ^ 20=100000000000000000000:=by decide
   omega
  have bT:(1:Nat)+s.length<=9223372036854775807:=by omega
  refine⟨[(0,.i .u64 (m / 10)),(3,.s (c::s))],?_,m / 10,c::s,rfl,by omega,?_,by simp[hs]⟩;rcases hc with rfl|hc;simp[P8,hslc,hq];simp[P8,hslc,hq,hc,hs];omega;have e:20 - i=(20 - (i+1))+1:=by omega
  rw[e,Nat.pow_succ] at h1;omega;right;simp only[not_or] at hc;obtain⟨oE,eO⟩:=hc;exact⟨(.e 0,[(3,.s s)]),by simp[P8,oE,eO],by simp,s,rfl,by omega⟩) (fun aA hI=>by
  obtain⟨m,s,rfl,h0,h1,hs⟩:=hI;have hm:¬0<m:=by have h1:m<((10 ^ 0:Nat):Int):=h1;omega
  have Dz:s≠[]:=by rintro rfl;simp at hs
  exact⟨(.e 0,[(3,.s s)]),by simp[P8,Dz,hm],by simp,s,rfl,by omega⟩) 20 0 [(0,.i .u64 m),(3,.s [])] (by omega) ⟨m,[],rfl,h0,Int.lt_trans h1 (by decide),rfl⟩
 obtain⟨r,hl,s,rfl,hs⟩:=hl;exact⟨s,aI (fc:=NG) rfl rfl rfl (by simp[NG,bA,hl]),hs⟩
def t212 (n:Int):∃s:List UInt8,O X 212 [.i .i64 n]=some (.s s)/\s.length<=21:=by
 by_cases hn:0<=n;have hr:=aS9 n;obtain⟨s,h,hs⟩:=aY7 (X:=X) (IntKind.u64.wrap n) hr.1 hr.2;exact⟨s,aI (fc:=S5) rfl rfl rfl (by simp[S5,hn,h]),by omega⟩;have hr:=aS9 (wX .xor .u64 (IntKind.u64.max) (IntKind.u64.wrap n)+1);obtain⟨s,h,hs⟩:=aY7 (X:=X) _ hr.1 hr.2;have bT:1+s.length<=9223372036854775807:=by omega
 exact⟨45::s,aI (fc:=S5) rfl rfl rfl (by simp[S5,hn,h,bT,IntKind.signed]),by simp;omega⟩
def YI (l:List (List UInt8))(K:Nat)(hK:K<=1000000)(hl:l.length<=1000)(h:∀x∈l,x.length<=K):∃s:List UInt8,O X 211 [.l (aB V.s l)]=some (.s s)/\s.length<=l.length*(K+22):=by
 have hx:=dW (o:=O X) (kin:=[0,3,4]) (c:=Wl) (fun i aA=>∃s:List UInt8,aA=[(0,.l (aB V.s l)),(3,.s s),(4,.i .i64 (i:Int))]/\s.length<=i*(K+22)) l.length (fun r=>∃s:List UInt8,r=(.e 0,[(3,.s s)])/\s.length<=l.length*(K+22)) (fun i aA hI=>by obtain⟨s,rfl,_⟩:=hI;simp) (fun i aA hi hI=>by
  obtain⟨s,rfl,hs⟩:=hI;left;have hw:=bC (i+1) (by omega);obtain⟨t,ht,kW⟩:=t212 (X:=X) (l[i].length:Int);have kV:=h l[i] (gN hi);have hb:i*(K+22)<=1000*(K+22):=yR _ (by omega);have h1:s.length+t.length<=9223372036854775807:=by omega
  have h2:s.length+t.length+1<=9223372036854775807:=by omega
  have h3:s.length+(t.length+1)+l[i].length<=9223372036854775807:=by omega
  refine⟨[(0,.l (aB V.s l)),(3,.s (s++(t++58::l[i]))),(4,.i .i64 ((i+1:Nat):Int))],?_,_,rfl,?_⟩;simp[Wl,hi,hw,ht,h1,h2,h3];rw[CM];simp only[kH,fY];omega) (fun aA hI=>by
  obtain⟨s,rfl,hs⟩:=hI;exact⟨(.e 0,[(3,.s s)]),by simp[Wl],by simp,s,rfl,hs⟩) l.length 0 [(0,.l (aB V.s l)),(3,.s []),(4,.i .i64 ((0:Nat):Int))] (by omega) ⟨[],rfl,by simp⟩
 obtain⟨r,hx,s,rfl,hs⟩:=hx;simp only[fU] at hx;exact⟨s,aI (fc:=NE) rfl rfl rfl (by simp[NE,bA,hx]),hs⟩
def aY8 (n:Int)(s:List UInt8)(h:s.length<=1000000):∃m,O X 208 [.i .u64 n,.s s]=some (.i .u64 m):=by
 have hx:=dW (o:=O X) (kin:=[0,1,5]) (c:=Wn) (fun i aA=>∃n:Int,aA=[(0,.i .u64 n),(1,.s s),(5,.i .i64 (i:Int))]) s.length (fun r=>∃n:Int,r=(.e 0,[(0,.i .u64 n)])) (fun i aA hI=>by obtain⟨n,rfl⟩:=hI;simp) (fun i aA hi hI=>by
  obtain⟨n,rfl⟩:=hI;left;have hw:=bC (i+1) (by omega);refine⟨[(0,.i .u64 (IntKind.u64.wrap (wX .xor .u64 n (IntKind.u64.wrap (s[i].toNat:Int))*1099511628211))),(1,.s s),(5,.i .i64 ((i+1:Nat):Int))],?_,_,rfl⟩;simp[Wn,hi,hw]) (fun aA hI=>by
  obtain⟨n,rfl⟩:=hI;exact⟨(.e 0,[(0,.i .u64 n)]),by simp[Wn],by simp,n,rfl⟩) s.length 0 [(0,.i .u64 n),(1,.s s),(5,.i .i64 ((0:Nat):Int))] (by omega) ⟨n,rfl⟩
 obtain⟨r,hx,m,rfl⟩:=hx;simp only[fU] at hx;exact⟨m,aI (fc:=JC) rfl rfl rfl (by simp[JC,bA,hx])⟩
def cW7 (s:List UInt8)(h:s.length<=1000000):∃m,O X 209 [.s s]=some (.i .u64 m):=by obtain⟨m,hm⟩:=aY8 (X:=X) 14695981039346656037 s h;exact⟨m,aI (fc:=J') rfl rfl rfl (by simp[J',hm])⟩
def BV (l:List Int):List V:=aB (V.i .u8) l
def eY0 (l:List Int):Is (BV l)=some (l.map fun n=>UInt8.ofNat n.toNat):=by induction l with|nil=>rfl|cons x l ih=>simp only[BV,BI,Is] at ih⊢;rw[ih];rfl
def cW6 (n:Int):∃s:List UInt8,O X 210 [.i .u64 n]=some (.s s)/\s.length=8:=by
 have hx:=dW (o:=O X) (kin:=[0,3,4]) (c:=Wm) (fun i aA=>∃(n:Int) (l:List Int),aA=[(0,.i .u64 n),(3,.ow 5 (BV l)),(4,.i .i64 (i:Int))]/\l.length=i) 8 (fun r=>∃l:List Int,r=(.e 0,[(3,.ow 5 (BV l))])/\l.length=8) (fun i aA hI=>by obtain⟨n,l,rfl,_⟩:=hI;simp) (fun i aA hi hI=>by
  obtain⟨n,l,rfl,hl⟩:=hI;left;have hw:=bC (i+1) (by omega);have hi8:(i:Int)<8:=by omega
  have wN:(BV l).length=i:=by simp[BV,hl]
  have hb:(i+1)*1<=140737488355328:=by omega
  refine⟨[(0,.i .u64 (IntKind.u64.wrap (n.tdiv 256))),(3,.ow 5 (BV (l++[IntKind.u8.wrap (n.tmod 256)]))),(4,.i .i64 ((i+1:Nat):Int))],?_,_,_,rfl,by simp[hl]⟩;have e:BV (l++[IntKind.u8.wrap (n.tmod 256)])=BV l++[.i .u8 (IntKind.u8.wrap (n.tmod 256))]:=by simp[BV,aB]
  rw[e];generalize BV l=U at wN⊢;simp[Wm,hi8,hw,wN];omega) (fun aA hI=>by
  obtain⟨n,l,rfl,hl⟩:=hI;exact⟨(.e 0,[(3,.ow 5 (BV l))]),by simp[Wm],by simp,l,rfl,hl⟩) 8 0 [(0,.i .u64 n),(3,.ow 5 []),(4,.i .i64 ((0:Nat):Int))] (by omega) ⟨n,[],rfl,rfl⟩
 obtain⟨r,hx,l,rfl,hl⟩:=hx;simp only[fU] at hx;have hb:=eY0 l;have EI:aS (O X) .b2s [.l (BV l)]=some (.s (l.map fun n=>UInt8.ofNat n.toNat)):=by simp[aS,hb]
 generalize BV l=U at hx EI;refine⟨l.map fun n=>UInt8.ofNat n.toNat,aI (fc:=KO) rfl rfl rfl (by simp[KO,bA,hx,EI]),by simp[hl]⟩
def cX0 (n:Int)(s:List UInt8)(h:s.length<=1000000):∃m,O X 177 [.i .u64 n,.s s]=some (.i .u64 m):=by obtain⟨e,he,hl⟩:=cW6 (X:=X) n;obtain⟨a,ha⟩:=cW7 (X:=X) e (by omega);obtain⟨m,hm⟩:=aY8 (X:=X) a s h;exact⟨m,aI (fc:=HQ) rfl rfl rfl (by simp[HQ,he,ha,hm])⟩
end Go.Proofs.YtdlpbedneamebaaGreatDoor
