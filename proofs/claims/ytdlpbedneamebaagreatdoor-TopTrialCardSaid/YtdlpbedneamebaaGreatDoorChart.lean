/-
A part of the proof of the last text.
-/
import Derived.Test.YtdlpbedneamebaaGreatDoorTV
set_option linter.all false
namespace Go.Proofs.YtdlpbedneamebaaGreatDoor
open Go.VM
variable {X:aU}
def l76 (s:List UInt8)(h:s.length<=16)(h1:1<=s.length):bP (O X) [0,3] It [(0,.s s),(3,.i .i64 1)]=some (oM (fun _=>(.r,[(2,.b false)])) (.e 0,[]) ((List.range (s.length - 1)).findSome? fun k=>uM s (k+1))):=by
 have:=wK (o:=O X) (kin:=[0,3]) (c:=It) (fun k=>[(0,.s s),(3,.i .i64 ((k+1:Nat):Int))]) (s.length - 1) (fun k=>uM s (k+1)) (fun _=>(.r,[(2,.b false)])) (.e 0,[]) (by simp) (by simp) (fun k hk=>by
  have hi:k+1<s.length:=by omega
  have hw:IntKind.i64.wrap ((k:Int)+1+1)=(k:Int)+1+1:=bC _ (by omega);have bE:(k:Int)+1<(s.length:Int):=by omega
  generalize hx:s[k+1]=x;by_cases h1:(x.toNat:Int)<97;have jI:¬(97:Int)<=(x.toNat:Int):=by omega
  by_cases h4:(x.toNat:Int)<48;have h3:¬(x.toNat:Int)=95:=by omega
  simp[It,hi,bE,uM,oB,hx,h1,jI,h3,h4];by_cases h5:(57:Int)<(x.toNat:Int);by_cases h3:(x.toNat:Int)=95<;>simp[It,hi,bE,hw,uM,oB,hx,h1,jI,h3,h4,h5];have h3:¬(x.toNat:Int)=95:=by omega
  simp[It,hi,bE,hw,uM,oB,hx,h1,jI,h3,h4,h5];have jI:(97:Int)<=(x.toNat:Int):=by omega
  by_cases h2:(x.toNat:Int)<=122;have jT:¬(122:Int)<(x.toNat:Int):=by omega
  simp[It,hi,bE,hw,uM,oB,hx,h1,jI,h2,jT];have jT:(122:Int)<(x.toNat:Int):=by omega
  have h3:¬(x.toNat:Int)=95:=by omega
  have h4:¬(x.toNat:Int)<48:=by omega
  have h5:(57:Int)<(x.toNat:Int):=by omega
  simp[It,hi,bE,uM,oB,hx,h1,jI,h2,jT,h3,h4,h5]) (by
  have:((s.length - 1+1:Nat):Int)=(s.length:Int):=by omega
  rw[this];simp[It]) (by simp)
 exact this
def dR2 {s:List UInt8}(h0:0<s.length):RE s=(oB (s[0].toNat:Int)&&((List.range (s.length - 1)).findSome? fun k=>uM s (k+1)).isNone):=by rw[bJ3 h0];cases hq:oB (s[0].toNat:Int) with|false=>simp|true=>simp only[QB];rw[LA,JP,JP,Gf,Gf];constructor;intro h k hk;exact h (k+1) (by omega);intro h i hi;cases i with|zero=>simp[uM,h0,hq]|succ i=>exact h i (by omega)
def e76 (s:List UInt8):O X 76 [.s s]=some (.b (C6 s)):=by
 refine aI (fc:=M8) rfl rfl rfl ?_;unfold C6;by_cases h0:s.length<1;have mH:s=[]:=pL (by omega);subst mH;simp[M8];have bM:¬s=[]:=fun e=>by subst e;simp at h0
 have h1:1<=s.length:=by omega
 have hp:0<s.length:=by omega
 by_cases h2:16<s.length;have jT:(16:Int)<(s.length:Int):=by omega
 have h3:¬s.length<=16:=by omega
 simp[M8,bM,jT,h3];have jT:¬(16:Int)<(s.length:Int):=by omega
 have h3:s.length<=16:=by omega
 rw[dR2 hp];have hl:=l76 (X:=X) s h3 h1;generalize hx:s[0]=x;have hp':(0:Int)<(s.length:Int):=by omega
 by_cases k1:(x.toNat:Int)<97;have FC:¬(97:Int)<=(x.toNat:Int):=by omega
 simp[M8,bM,jT,hp,hx,k1,oB,FC];have FC:(97:Int)<=(x.toNat:Int):=by omega
 by_cases k2:(122:Int)<(x.toNat:Int);have Cb:¬(x.toNat:Int)<=122:=by omega
 simp[M8,bM,jT,hp,hx,k1,k2,oB,Cb];have Cb:(x.toNat:Int)<=122:=by omega
 cases hq:(List.range (s.length - 1)).findSome? (fun k=>uM s (k+1))<;>rw[hq] at hl<;>simp[M8,bM,jT,hp,hx,k1,k2,oB,FC,Cb,bA,hl,h1,h3]
def bB2 (l:List Gl)(i:Nat)(h:i<=l.length):aS (O X) (.slc 4 false true) [.l (kQ l),.i .i64 i]=some (.l (kQ (l.take i))):=by
 have hb:pK (kQ l).length false true [.i .i64 (i:Int)]=some (0,i):=by
  have:(i:Int)<=((kQ l).length:Int):=by simp;omega
  simp only[pK];rw[aY ⟨by omega,this⟩];simp
 have ha:(kQ l).all (fun x=>x.cells.length==4)=true:=mU fun _=>rfl;simp only[aS,ha,jA,hb,eB,JK];simp[aB]
def Q' (l:List Gl)(id:Int)(i:Nat):Option Nat:=match l[i]? with|some g=>if g.parent=id then some i else none|none=>none
def VP (l:List Gl)(id:Int):Option Nat:=(List.range l.length).findSome? (Q' l id)
def O5 (l:List Gl)(id:Int):Bool:=(VP l id).isSome
def eC7 (l:List Gl)(id:Int)(h:l.length<=1000):bP (O X) [0,1,5] TT [(0,.l (kQ l)),(1,.i .i64 id),(5,.i .i64 0)]=some (oM (fun(_:Nat)=>(.r,[(4,.b true)])) (.e 0,[]) (VP l id)):=by
 have:=wK (o:=O X) (kin:=[0,1,5]) (c:=TT) (fun i=>[(0,.l (kQ l)),(1,.i .i64 id),(5,.i .i64 i)]) l.length (Q' l id) (fun(_:Nat)=>(.r,[(4,.b true)])) (.e 0,[]) (by simp) (by simp) (fun i hi=>by
  have hw:=bC (i+1) (by omega);by_cases hc:l[i].parent=id<;>simp[TT,hi,hw,Q',hc]) (by simp[TT]) (by simp)
 exact this
@[simp] def eR3 (l:List Gl)(id:Int)(h:l.length<=1000):O X 126 [.l (kQ l),.i .i64 id]=some (.b (O5 l id)):=by refine aI (fc:=CH) rfl rfl rfl ?_;have hl:=eC7 (X:=X) l id h;unfold O5;cases hq:VP l id<;>rw[hq] at hl<;>simp at hl<;>simp[CH,bA,hl]
def Rq (m:List Gl)(g:Gl)(low:Bool):Int:=if g.id<1\/999<g.id\/g.kind<1\/5<g.kind then 1
  else if low=true then 10
  else if C6 g.name=false then 4
  else if g.parent=0 then 0
  else match lP m g.parent with|none=>11|some a=>if a.kind=g.kind then 0 else 3
def Ol (l:List Gl)(g:Gl):Nat->Bool
 |0=>false
 |k+1=>match l[k]? with
  |some b=>decide (g.id<=b.id)|none=>false
def PO (l:List Gl)(i:Nat):Int:=match l[i]? with|some g=>Rq (l.take i) g (Ol l g i)|none=>0
structure fD8 (l:List Gl):Prop where
 len:l.length<=1000
 name:∀g∈l,g.name.length<=maxLen
def dD2 (l:List Gl):aS (O X) (.slc 4 false true) [.l (kQ l),.i .i64 0]=some (.l (kQ (l.take 0))):=bB2 l 0 (by omega)
def dC9 (l:List Gl)(k:Nat)(h:k+1<=l.length):aS (O X) (.slc 4 false true) [.l (kQ l),.i .i64 ((k:Int)+1)]=some (.l (kQ (l.take (k+1)))):=bB2 l (k+1) h
abbrev U:=Int×Int
def Xg (p:nU):List U:=[(p.cash,1),(p.deposits,2),(p.interestPaid,5),(p.interestEarned,4),(p.feeEarned,4),(p.tax,2),(p.clearing,1),(p.loans,1),(p.loanInterest,4),(p.penalty,4),(p.provision,2),(p.provisionCost,5),(p.loss,5),(p.recovery,4)]
def LR (l:List Gl)(u:U):Int:=match lP l u.1 with|none=>11|some g=>if O5 l u.1=true then 11 else if g.kind=u.2 then 0 else 3
def e78 (l:List Gl)(id k:Int)(h:l.length<=1000):O X 78 [.l (kQ l),.i .i64 id,.i .i64 k]=some (.i .i64 (LR l (id,k))):=by refine aI (fc:=SL) rfl rfl rfl ?_;have qS:=aC9 (X:=X) l id h;have h34:=eR3 (X:=X) l id h;unfold LR;cases hg:lP l id with|none=>rw[hg] at qS;simp[gV,g0] at qS;simp[SL,qS]|some g=>rw[hg] at qS;simp[gV] at qS;cases hp:O5 l id<;>rw[hp] at h34;by_cases hk:g.kind=k<;>simp[SL,qS,h34,hk];simp[SL,qS,h34]
def KW (l:List Gl)(i:Nat):Option Int:=if PO l i=0 then none else some (PO l i)
def Ni (l:List Gl)(us:List U)(i:Nat):Option Int:=match us[i]? with|some u=>if LR l u=0 then none else some (LR l u)|none=>none
def K6 (l:List Gl)(p:nU):Int:=if l.length<1\/40<l.length then 5 else match(List.range l.length).findSome? (KW l) with|some e=>e|none=>((List.range 14).findSome? (Ni l (Xg p))).getD 0
def Ye:C:=.d [mX 70,bN 71 5,.slc 72 4 false true [QX,.t 71],rO 73 6,bX 74 73,l7 75 77 72 74 [],bN 69 75,fJ 76 69,fK 77 69,fI 7 [aL,bO],xO 7 76,xR 77] [[],[],[0,1],[],[3],[0,1,2,3,4],[0,1,2,3,4,5],[0,1,2,3,4,5,6],[0,1,2,3,4,5,6],[],[0,1,2,3,4,5,6,7,9],[0,1,2,3,4,5,6,7,8,9,10]] [70,71,72,73,74,75,69,76,77]
def yL:C:=Le (xX [(24,Ae .lss 5 [US])] (Qd 24 .skip (.exit 0 [0,3]))) 1 (oK (vW 27 0 28 5 [j8 29 4 27 28,lT 30 4 29 [],fI 6 [aL,bO],xO 6 30] [27,28,29,30]) (vZ [(48,xU (zY .lss 0 1 6 [] [] [Ac]) (zY .gtr 0 1 6 [] [] [rU 999]) (zY .lss 2 1 6 [] [] [Ac]) (zY .gtr 2 1 6 [] [] [rU 5]))] 48 (kK [(4,Ac)] 4 [])) (vZ [(61,gT (Ae .gtr 5 [qL]) (zY .leq 0 1 6 [] [] [dY (.ld 1 false) (dY (.fa 0 1) (rB (.ix 4) 0 [Ae .sub 5 [Ac]]) []) []]))] 61 (kK [(4,rU 10)] 4 [])) (vZ [(65,qG (B0 76 (Eb 3 1 6 [] []) []))] 65 (kK [(4,rU 4)] 4 [])) (oK (vZ [(68,zY .eql 1 1 6 [] [] [qL])] 68 (.exit 1 [0,3,5])) Ye (vZ [(79,rB G6 8 [])] 79 (kK [(4,rU 11)] 4 [])) (dV 84 (zY .neq 2 1 7 [] [] [Eb 2 1 6 [] []]) []) (G4 84 (kK [(4,rU 3)] 4 [])))) (dV 5 (rB Ah 5 [Ac]) [])
def eY3:Wb=yL:=rfl
abbrev E11 (L:List V)(p:List V)(n:Int)(x:List V):aG:=[(0,.l L),(3,.bx p),(5,.i .i64 n),(6,.bx x),(24,.b true),(48,.b false),(61,.b false),(65,.b false),(68,.b false)]
set_option maxHeartbeats 4000000 in
def bE7 (L M:List V)(p:List V)(n:Int)(x y:Gl)(t:Bool)(hs:aS (O X) (.slc 4 false true) [.l L,.i .i64 n]=some (.l M))(qS:O X 77 [.l M,.i .i64 x.parent]=some (.t [y.v,.b t])):
  bI (O X) Ye (E11 L p n x.cells)=some (.n,[(0,.l L),(3,.bx p),(5,.i .i64 n),(6,.bx x.cells),(7,.bx y.cells),(8,.b t),(24,.b true),(48,.b false),(61,.b false),(65,.b false),(68,.b false)]):=by
 simp(config := { maxSteps := 1000000 }) [Ye,hs,qS]
def dZ4 (l:List Gl)(is ks:List Int)(h:l.length<=1000)(hu:is.length<=1000)(Bw:is.length=ks.length):bP (O X) [0,9,10,11] M' [(0,.l (kQ l)),(9,.ow 3 (bQ is)),(10,.ow 3 (bQ ks)),(11,.i .i64 0)]=some (oM (fun(e:Int)=>(.r,[(4,.i .i64 e)])) (.e 2,[]) ((List.range is.length).findSome? (Ni l (is.zip ks)))):=by
 have:=wK (o:=O X) (kin:=[0,9,10,11]) (c:=M') (fun i=>[(0,.l (kQ l)),(9,.ow 3 (bQ is)),(10,.ow 3 (bQ ks)),(11,.i .i64 i)]) is.length (Ni l (is.zip ks)) (fun(e:Int)=>(.r,[(4,.i .i64 e)])) (.e 2,[]) (by simp) (by simp) (fun i hi=>by
  have hw:=bC (i+1) (by omega);have hk:i<ks.length:=by omega
  have h29:=e78 (X:=X) l is[i] ks[i] h;have hz:(is.zip ks)[i]? =some (is[i],ks[i]):=by rw[eI (by simp;omega)];simp
  have hU:Ni l (is.zip ks) i=if LR l (is[i],ks[i])=0 then none else some (LR l (is[i],ks[i])):=by unfold Ni;rw[hz]
  rw[hU];generalize LR l (is[i],ks[i])=e at h29;by_cases h0:e=0;subst h0;simp[M',hi,hk,hw,h29];simp[M',hi,hk,h29,h0]) (by simp[M']) (by simp)
 exact this
def Vv {m:List Gl}{g:Gl}{low:Bool}(h:g.id<1\/999<g.id\/g.kind<1\/5<g.kind):Rq m g low=1:=aY h
def eQ1 {m:List Gl}{g:Gl}{low:Bool}(c1:¬g.id<1)(c2:¬(999:Int)<g.id)(c3:¬g.kind<1)(c4:¬(5:Int)<g.kind):Rq m g low=if low=true then 10 else if C6 g.name=false then 4 else if g.parent=0 then 0 else match lP m g.parent with|none=>11|some a=>if a.kind=g.kind then 0 else 3:=aK (by omega)
set_option maxHeartbeats 8000000 in
def dZ5 (l:List Gl)(p:nU)(h:fD8 l):bP (O X) [0,3,5] Wb [(0,.l (kQ l)),(3,.bx p.cells),(5,.i .i64 0)]=some (oM (fun(e:Int)=>(.r,[(4,.i .i64 e)])) (.e 0,[(0,.l (kQ l)),(3,.bx p.cells)]) ((List.range l.length).findSome? (KW l))):=by
 have bT:=h.len;rw[eY3];generalize p.cells=PC;have:=wK (o:=O X) (kin:=[0,3,5]) (c:=yL) (fun i=>[(0,.l (kQ l)),(3,.bx PC),(5,.i .i64 i)]) l.length (KW l) (fun(e:Int)=>(.r,[(4,.i .i64 e)])) (.e 0,[(0,.l (kQ l)),(3,.bx PC)]) (by simp) (by simp) (fun i hi=>by
  have hw:=bC (i+1) (by omega);have uE:=e76 (X:=X) l[i].name;have qS:=aC9 (X:=X) (l.take i) l[i].parent (by rw[gO];omega);have hE:PO l i=Rq (l.take i) l[i] (Ol l l[i] i):=by unfold PO;rw[eI hi]
  unfold KW;rw[hE];have cU:IntKind.i64.wrap 1=1:=bC _ (by omega);by_cases c1:l[i].id<1;rw[Vv (.inl c1)];simp[yL,hi,c1];by_cases c2:(999:Int)<l[i].id;rw[Vv (.inr (.inl c2))];simp[yL,hi,c1,c2];by_cases c3:l[i].kind<1;rw[Vv (.inr (.inr (.inl c3)))];simp[yL,hi,c1,c2,c3];by_cases c4:(5:Int)<l[i].kind;rw[Vv (.inr (.inr (.inr c4)))];simp[yL,hi,c1,c2,c3,c4];rw[eQ1 c1 c2 c3 c4];cases i with
  |zero=>have Gx:Ol l l[0] 0=false:=rfl;rw[Gx];have hr:=fun y t=>bE7 (X:=X) (kQ l) (kQ (l.take 0)) PC 0 l[0] y t (dD2 l);simp only[E11] at hr;cases hn:C6 l[0].name<;>rw[hn] at uE;simp[yL,hi,c1,c2,c3,c4,uE];by_cases c7:l[0].parent=0;simp[yL,hi,c1,c2,c3,c4,uE,c7,cU];cases hg:lP (l.take 0) l[0].parent<;>rw[hg] at qS;have iI:=hr g0 false qS;simp[g0] at iI;simp[yL,hi,c1,c2,c3,c4,uE,c7,iI];rename_i a;have iI:=hr a true qS;by_cases c8:a.kind=l[0].kind;simp[yL,hi,c1,c2,c3,c4,uE,c7,iI,c8,cU];simp[yL,hi,c1,c2,c3,c4,uE,c7,iI,c8]
  |succ k=>
   have hk:k<l.length:=by omega
   have Gx:Ol l l[k+1] (k+1)=decide (l[k+1].id<=l[k].id):=by show(match l[k]? with |some b=>decide (l[k+1].id<=b.id)|none=>false)=_;rw[eI hk]
   rw[Gx];have hwk:IntKind.i64.wrap (k:Int)=(k:Int):=bC _ (by omega);have hp:(0:Int)<(k:Int)+1:=by omega
   have hi2:(k:Int)+1<(l.length:Int):=by omega
   have tA:(0:Int)<=(k:Int)+1:=by omega
   have eZ:IntKind.i64.wrap ((k:Int)+1+1)=(k:Int)+1+1:=bC _ (by omega);have hr:=fun y t=>bE7 (X:=X) (kQ l) (kQ (l.take (k+1))) PC ((k:Int)+1) l[k+1] y t (dC9 l k (by omega));simp only[E11] at hr;by_cases c5:l[k+1].id<=l[k].id;simp[yL,hi,c1,c2,c3,c4,hp,hwk,hk,hi2,tA,c5];cases hn:C6 l[k+1].name<;>rw[hn] at uE;simp[yL,hi,c1,c2,c3,c4,hp,hwk,hk,hi2,tA,c5,uE];by_cases c7:l[k+1].parent=0;simp[yL,hi,c1,c2,c3,c4,hp,hwk,hk,hi2,tA,c5,uE,c7,eZ];cases hg:lP (l.take (k+1)) l[k+1].parent<;>rw[hg] at qS;have iI:=hr g0 false qS;simp[g0] at iI;simp[yL,hi,c1,c2,c3,c4,hp,hwk,hk,hi2,tA,c5,uE,c7,iI];rename_i a;have iI:=hr a true qS;by_cases c8:a.kind=l[k+1].kind;simp[yL,hi,c1,c2,c3,c4,hp,hwk,hk,hi2,tA,c5,uE,c7,iI,c8,eZ];simp[yL,hi,c1,c2,c3,c4,hp,hwk,hk,hi2,tA,c5,uE,c7,iI,c8]) (by simp[yL]) (by simp)
 exact this
def RQ (p:nU):List Int:=[p.cash,p.deposits,p.interestPaid,p.interestEarned,p.feeEarned,p.tax,p.clearing,p.loans,p.loanInterest,p.penalty,p.provision,p.provisionCost,p.loss,p.recovery]
def Vb:List Int:=[1,2,5,4,4,2,1,1,4,4,2,5,5,4]
def cE4 (p:nU):(RQ p).zip Vb=Xg p:=rfl
def bK3:C:=mZ 85 0 3 [bX 86 85,gS 87 1,bX 88 87,gS 89 2,bX 90 89,gS 91 3,bX 92 91,gS 93 4,bX 94 93,gS 95 5,bX 96 95,gS 97 6,bX 98 97,gS 99 7,bX 100 99,gS 101 8,bX 102 101,gS 103 9,bX 104 103,gS 105 10,bX 106 105,gS 107 11,bX 108 107,gS 109 12,bX 110 109,gS 111 13,bX 112 111,sP 113 3 [.t 86,.t 88,.t 90,.t 92,.t 94,.t 96,.t 98,Q5,U1,.t 104,.t 106,.t 108,.t 110,.t 112],eR 9 113] [85,86,87,88,89,90,91,92,93,94,95,96,97,98,99,100,101,102,103,104,105,106,107,108,109,110,111,112,113]
def bK2:C:=nL (sP 114 3 [yZ,B5,Nj,B6,B6,B5,yZ,yZ,B6,B6,B5,Nj,Nj,B6]) [Da 114] [114]
def PX:aQ:=⟨2,[.tmp 4],gK vX [sR] (kL (vZ [(20,gH (J9 .lss US [Ac]) (J9 .gtr US [rU 40]))] 20 (kK [(4,rU 5)] 4 [])) (CS [(5,qL)] [0,3,5] Wb) (iO bK3 bK2 (xX [(11,qL)] (G7 2 [0,9,10,11] M')) (dV 4 qL []) 4 []))⟩
def dT5 (L:List V)(p:nU):bI (O X) bK3 [(0,.l L),(3,.bx p.cells)]=some (.n,[(0,.l L),(3,.bx p.cells),(9,.ow 3 (bQ (RQ p)))]):=by kernel_rfl
def dT4 (L PC A:List V):bI (O X) bK2 [(0,.l L),(3,.bx PC),(9,.ow 3 A)]=some (.n,[(0,.l L),(3,.bx PC),(9,.ow 3 A),(10,.ow 3 (bQ Vb))]):=by kernel_rfl
def Rt (l:List Gl)(p:nU)(hn:∀g∈l,g.name.length<=maxLen)(_h:l.length<=maxLen):O X 38 [.l (kQ l),p.v]=some (.i .i64 (K6 l p)):=by
 refine aI (fc:=PX) rfl rfl rfl ?_;unfold K6;by_cases h1:l.length<1;have jI:(l.length:Int)<1:=by omega
 simp[PX,jI,h1];have jI:¬(l.length:Int)<1:=by omega
 by_cases h2:40<l.length;have jT:(40:Int)<(l.length:Int):=by omega
 simp[PX,jI,jT,h2];have jT:¬(40:Int)<(l.length:Int):=by omega
 rw[aK (by omega)];have ha:=dZ5 (X:=X) l p ⟨by omega,hn⟩;have hm:=dT5 (X:=X) (kQ l) p;have AH:=fun PC A=>dT4 (X:=X) (kQ l) PC A;have hb:=dZ4 (X:=X) l (RQ p) Vb (by omega) (by show 14<=1000;omega) rfl;rw[cE4] at hb;have wN:(RQ p).length=14:=rfl;rw[wN] at hb;generalize Xg p=us at hb⊢;generalize bQ (RQ p)=A at hm hb;generalize bQ Vb=B at AH hb;have hv:p.v= .a p.cells:=rfl;have cK:p.cells.length=14:=rfl;have AK:(∀y∈p.cells,y.cell=true)=True:=by simp
 rw[hv];generalize p.cells=PC at ha hm cK AK⊢;cases hq:(List.range l.length).findSome? (KW l)<;>rw[hq] at ha<;>simp at ha;cases hq2:(List.range 14).findSome? (Ni l us)<;>rw[hq2] at hb<;>simp at hb<;>simp[PX,bA,jI,jT,AK,ha,hm,AH,hb];simp[PX,bA,jI,jT,AK,ha]
variable {l:List Gl}
structure JH (l:List Gl):Prop where
 len:l.length<=40
 asc:∀i j (hi:i<l.length) (hj:j<l.length),i<j->l[i].id<l[j].id
 par:∀i (hi:i<l.length),l[i].parent=0\/∃j,∃hj:j<i,(l[j]'(by omega)).id=l[i].parent
 pos:∀i (hi:i<l.length),1<=l[i].id
def bT9 {l:List Gl}{id:Int}{g:Gl}(h:lP l id=some g):∃i,∃hi:i<l.length,l[i]=g/\g.id=id:=by unfold lP at h;obtain⟨k,hk,hp⟩:=QC h;have gD:k<l.length:=nH.1 hk;simp only[MW,eI gD] at hp;split at hp;rename_i he;simp only[aH] at hp;exact⟨k,gD,hp,hp▸he⟩;cases hp
def JH.inj (h:JH l){i j:Nat}(hi:i<l.length)(hj:j<l.length)(e:l[i].id=l[j].id):i=j:=by rcases Nat.lt_trichotomy i j with h1|h1|h1;have:=h.asc i j hi hj h1;omega;exact h1;have:=h.asc j i hj hi h1;omega
def JH.find (h:JH l){i:Nat}(hi:i<l.length):lP l l[i].id=some l[i]:=by cases hq:lP l l[i].id with|none=>have:=Gf.1 hq i hi;simp[MW,hi] at this|some g=>obtain⟨j,hj,he,hid⟩:=bT9 hq;have:=h.inj hj hi (by rw[he];exact hid);subst this;rw[he]
end Go.Proofs.YtdlpbedneamebaaGreatDoor
