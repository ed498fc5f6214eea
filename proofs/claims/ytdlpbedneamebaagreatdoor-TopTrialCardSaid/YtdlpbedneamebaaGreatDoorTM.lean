/-
Plain laws and walks: part of the proof of the last text.
-/
import Derived.Test.YtdlpbedneamebaaGreatDoorTypes
set_option linter.all false
namespace Go.Proofs.YtdlpbedneamebaaGreatDoor
open Go.VM
noncomputable def O (X:aU):aU:=nE bJ X
variable {X:aU}
def aI {f:Nat}{fc:aQ}(ht:bJ f=some fc){args:List V}{y:V}(hl:args.length=fc.np)(ha:args.all V.arg=true)(h:wH fc.res (bI (O X) fc.body (kR 0 args))=some y):O X f args=some y:=VM.run ht hl ha h
def oB (c:Int):Bool:=decide (97<=c)&&decide (c<=122)
def CI (s:List UInt8)(i:Nat):Option Unit:=match s[i]? with|some c=>if oB (c.toNat:Int)=false/\(i=0\/((c.toNat:Int)≠95/\((c.toNat:Int)<48\/57<(c.toNat:Int)))) then some () else none|none=>none
def RE (s:List UInt8):Bool:=((List.range s.length).findSome? (CI s)).isNone
def C6 (s:List UInt8):Bool:=RE s&&(decide (1<=s.length)&&decide (s.length<=16))
def uM (s:List UInt8)(i:Nat):Option Unit:=match s[i]? with|some c=>if oB (c.toNat:Int)=false/\((c.toNat:Int)≠95/\((c.toNat:Int)<48\/57<(c.toNat:Int))) then some () else none|none=>none
def dZ8 (s:List UInt8)(h:s.length<=16):bP (O X) [0,3] Ix [(0,.s s),(3,.i .i64 0)]=some (oM (fun _=>(.r,[(2,.b false)])) (.e 0,[]) ((List.range s.length).findSome? (uM s))):=by
 have:=wK (o:=O X) (kin:=[0,3]) (c:=Ix) (fun i=>[(0,.s s),(3,.i .i64 i)]) s.length (uM s) (fun _=>(.r,[(2,.b false)])) (.e 0,[]) (by simp) (by simp) (fun i hi=>by
  have hw:=bC (i+1) (by omega);generalize hx:s[i]=x;by_cases h1:(x.toNat:Int)<97;have jI:¬(97:Int)<=(x.toNat:Int):=by omega
  by_cases h4:(x.toNat:Int)<48;have h3:¬(x.toNat:Int)=95:=by omega
  simp[Ix,hi,uM,oB,hx,h1,jI,h3,h4];by_cases h5:(57:Int)<(x.toNat:Int);by_cases h3:(x.toNat:Int)=95<;>simp[Ix,hi,hw,uM,oB,hx,h1,jI,h3,h4,h5];have h3:¬(x.toNat:Int)=95:=by omega
  simp[Ix,hi,hw,uM,oB,hx,h1,jI,h3,h4,h5];have jI:(97:Int)<=(x.toNat:Int):=by omega
  by_cases h2:(x.toNat:Int)<=122;have jT:¬(122:Int)<(x.toNat:Int):=by omega
  simp[Ix,hi,hw,uM,oB,hx,h1,jI,h2,jT];have jT:(122:Int)<(x.toNat:Int):=by omega
  have h3:¬(x.toNat:Int)=95:=by omega
  have h4:¬(x.toNat:Int)<48:=by omega
  have h5:(57:Int)<(x.toNat:Int):=by omega
  simp[Ix,hi,uM,oB,hx,h1,jI,h2,jT,h3,h4,h5]) (by simp[Ix]) (by simp)
 exact this
def bJ3 {s:List UInt8}(h0:0<s.length):RE s=(oB (s[0].toNat:Int)&&((List.range s.length).findSome? (uM s)).isNone):=by
 rw[LA];unfold RE;rw[JP,fA,JP,Gf,Gf];constructor;intro h;refine⟨?_,fun i hi=> ?_⟩;have:=h 0 h0;simp only[CI,eI h0,true_or,jJ] at this;cases hq:oB (s[0].toNat:Int) with|true=>rfl|false=>rw[hq] at this;simp at this
 have:=h i hi;simp only[CI,uM,eI hi] at this⊢;split at this;cases this;rename_i hn;rw[aK fun hc=>hn ⟨hc.1,.inr hc.2⟩];rintro⟨h1,h2⟩ i hi;have:=h2 i hi;simp only[CI,uM,eI hi] at this⊢;split at this;cases this;rename_i hn;rw[aK];rintro⟨oE,eO|eO⟩;subst eO;rw[h1] at oE;cases oE;exact hn ⟨oE,eO⟩
def eQ4 (s:List UInt8):O X 273 [.s s]=some (.b (C6 s)):=by
 refine aI (fc:=Mg) rfl rfl rfl ?_;unfold C6;by_cases h0:s.length<1;have mH:(s.length:Int)<1:=by omega
 have h1:¬1<=s.length:=by omega
 simp[Mg,mH,h1];have mH:¬(s.length:Int)<1:=by omega
 have h1:1<=s.length:=by omega
 have hp:0<s.length:=by omega
 by_cases h2:16<s.length;have jT:(16:Int)<(s.length:Int):=by omega
 have h3:¬s.length<=16:=by omega
 simp[Mg,mH,jT,h3];have jT:¬(16:Int)<(s.length:Int):=by omega
 have h3:s.length<=16:=by omega
 rw[bJ3 hp];have hl:=dZ8 (X:=X) s h3;generalize hx:s[0]=x;have hp':(0:Int)<(s.length:Int):=by omega
 by_cases k1:(x.toNat:Int)<97;have FC:¬(97:Int)<=(x.toNat:Int):=by omega
 simp[Mg,mH,jT,hp,hx,k1,oB,FC];have FC:(97:Int)<=(x.toNat:Int):=by omega
 by_cases k2:(122:Int)<(x.toNat:Int);have Cb:¬(x.toNat:Int)<=122:=by omega
 simp[Mg,mH,jT,hp,hx,k1,k2,oB,Cb];have Cb:(x.toNat:Int)<=122:=by omega
 cases hq:(List.range s.length).findSome? (uM s)<;>rw[hq] at hl<;>simp[Mg,mH,jT,hp,hx,k1,k2,oB,FC,Cb,bA,hl,h1,h3]
abbrev kQ (l:List Gl):List V:=aB Gl.v l
abbrev aC6 (l:List iN):List V:=aB iN.v l
abbrev CF (l:List gR):List V:=aB gR.v l
abbrev AQ (l:List aW):List V:=aB aW.v l
def MW (l:List Gl)(id:Int)(i:Nat):Option Gl:=match l[i]? with|some g=>if g.id=id then some g else none|none=>none
def lP (l:List Gl)(id:Int):Option Gl:=(List.range l.length).findSome? (MW l id)
def g0:Gl:=⟨0,0,0,[]⟩
def gV:Option Gl->V
 |some g=> .t [g.v,.b true]|none=> .t [g0.v,.b false]
def l90 (l:List Gl)(id:Int)(h:l.length<=1000):bP (O X) [1,4,8,9,10] Ss [(1,.i .i64 id),(4,.bx g0.cells),(8,.l (kQ l)),(9,.i .i64 l.length),(10,.i .i64 0)]=some (oM (fun g=>(.r,[(4,.bx g.cells),(5,.b true)])) (.e 0,[(4,.bx g0.cells)]) (lP l id)):=by
 have:=wK (o:=O X) (kin:=[1,4,8,9,10]) (c:=Ss) (fun i=>[(1,.i .i64 id),(4,.bx g0.cells),(8,.l (kQ l)),(9,.i .i64 l.length),(10,.i .i64 i)]) l.length (MW l id) (fun g=>(.r,[(4,.bx g.cells),(5,.b true)])) (.e 0,[(4,.bx g0.cells)]) (by simp) (by simp) (fun i hi=>by
  have hw:=bC (i+1) (by omega);by_cases hc:l[i].id=id<;>simp[Ss,hi,hw,MW,hc]) (by simp[Ss]) (by simp)
 exact this
@[simp] def Rr (l:List Gl)(id:Int)(h:l.length<=1000):O X 90 [.l (kQ l),.i .i64 id]=some (gV (lP l id)):=by refine aI (fc:=OI) rfl rfl rfl ?_;have hl:=l90 (X:=X) l id h;cases hq:lP l id<;>rw[hq] at hl<;>simp[g0] at hl<;>simp[OI,bA,hl,gV,g0]
def l77 (l:List Gl)(id:Int)(h:l.length<=1000):bP (O X) [0,1,4,6] Sw [(0,.l (kQ l)),(1,.i .i64 id),(4,.bx g0.cells),(6,.i .i64 0)]=some (oM (fun g=>(.r,[(4,.bx g.cells),(5,.b true)])) (.e 0,[(4,.bx g0.cells)]) (lP l id)):=by
 have:=wK (o:=O X) (kin:=[0,1,4,6]) (c:=Sw) (fun i=>[(0,.l (kQ l)),(1,.i .i64 id),(4,.bx g0.cells),(6,.i .i64 i)]) l.length (MW l id) (fun g=>(.r,[(4,.bx g.cells),(5,.b true)])) (.e 0,[(4,.bx g0.cells)]) (by simp) (by simp) (fun i hi=>by
  have hw:=bC (i+1) (by omega);by_cases hc:l[i].id=id<;>simp[Sw,hi,hw,MW,hc]) (by simp[Sw]) (by simp)
 exact this
@[simp] def aC9 (l:List Gl)(id:Int)(h:l.length<=1000):O X 77 [.l (kQ l),.i .i64 id]=some (gV (lP l id)):=by refine aI (fc:=NW) rfl rfl rfl ?_;have hl:=l77 (X:=X) l id h;cases hq:lP l id<;>rw[hq] at hl<;>simp[g0] at hl<;>simp[NW,bA,hl,gV,g0]
def y8 (l:List Gl):Nat->Option Gl->List Int
 |0,_=>[]|_+1,none=>[]|n+1,some g=>g.id::(if g.parent=0 then[] else y8 l n (lP l g.parent))
def Yz (l:List Gl):∀(n:Nat) (og:Option Gl),(y8 l n og).length<=n
 |0,_=>by simp[y8]|n+1,none=>by simp[y8]|n+1,some g=>by unfold y8;have:=Yz l n (lP l g.parent);split<;>simp<;>omega
def Dn (l:List Gl)(id:Int):List Int:=(y8 l 40 (lP l id)).reverse
def cellsOf:Option Gl->List V
 |some g=>g.cells|none=>g0.cells
def eF8 (l:List Int)(k:Int):bQ l++[.i .i64 k]=bQ (l++[k]):=by simp[aB]
abbrev E49 (l:List Gl)(acc:List Int)(og:Option Gl):aG:=[(0,.l (kQ l)),(5,.ow 3 (bQ acc)),(6,.bx (cellsOf og)),(7,.b og.isSome)]
def bN7 (l:List Gl)(h:l.length<=1000):∀(n:Nat) (acc:List Int) (og:Option Gl),acc.length+n=40->bP (O X) [0,5,6,7] Pn (E49 l acc og)=some (.e 0,[(5,.ow 3 (bQ (acc++y8 l n og)))])
 |0,acc,og,hn=>by
  have h1:¬(acc.length:Int)<40:=by omega
  refine Lx (by simp) ?_ (by simp);cases og<;>simp[Pn,y8,h1]
 |n+1,acc,none,hn=>by refine Lx (by simp) ?_ (by simp);simp[Pn,y8]
 |n+1,acc,some g,hn=>by
  have h1:(acc.length:Int)<40:=by omega
  have h2:(acc.length+1)*8<=140737488355328:=by omega
  have hs:=eF8 acc g.id;by_cases hp:g.parent=0;refine Lx (by simp) ?_ (by simp);simp[Pn,y8,h1,h2,hp,hs,cellsOf];have ih:=bN7 l h n (acc++[g.id]) (lP l g.parent) (by simp;omega);rw[y8,aK hp,List.append_cons,<-ih];refine Zc (by simp) (by simp) ?_;have hf:=Rr (X:=X) l g.parent h;cases hq:lP l g.parent<;>rw[hq] at hf<;>simp[gV,g0] at hf<;>simp[Pn,h1,h2,hp,hs,cellsOf,hf,g0]
@[simp] def eR1 (l:List Gl)(id:Int)(h:l.length<=1000):O X 141 [.l (kQ l),.i .i64 id]=some (.ow 3 (bQ (Dn l id))):=by
 refine aI (fc:=F8) rfl rfl rfl ?_;have hl:=bN7 (X:=X) l h 40 [] (lP l id) rfl;have hf:=Rr (X:=X) l id h;have bT:=Yz l 40 (lP l id);have h56:Bk 184=⟨3,false,false,OQ,0⟩:=rfl;have hpath:Dn l id=(y8 l 40 (lP l id)).reverse:=rfl;rw[DY] at hl;generalize y8 l 40 (lP l id)=p at hl bT hpath;rw[hpath];have hr:(bQ p).reverse=bQ p.reverse:=by simp[aB]
 have Vh:p.length<=1000000:=by omega
 cases hq:lP l id<;>rw[hq] at hf hl<;>simp[E49,gV,g0,cellsOf] at hf hl<;>simp[F8,bA,hl,hf,h56,OQ,Vh]
def RR (l:List Int)(x:Int)(i:Nat):Option Nat:=match l[i]? with|some y=>if x=y then some i else none|none=>none
def Lt (l:List Int)(x:Int):Option Nat:=(List.range l.length).findSome? (RR l x)
def C5:Option Nat->V
 |some i=> .i .i64 i|none=> .i .i64 (-1)
def eB2 (l:List Int)(x:Int)(h:l.length<=1000):bP (O X) [0,1,7,8] TJ [(0,.l (bQ l)),(1,.i .i64 x),(7,.i .i64 l.length),(8,.i .i64 0)]=some (oM (fun(i:Nat)=>(.r,[(4,.i .i64 i)])) (.e 0,[]) (Lt l x)):=by
 have:=wK (o:=O X) (kin:=[0,1,7,8]) (c:=TJ) (fun i=>[(0,.l (bQ l)),(1,.i .i64 x),(7,.i .i64 l.length),(8,.i .i64 i)]) l.length (RR l x) (fun(i:Nat)=>(.r,[(4,.i .i64 i)])) (.e 0,[]) (by simp) (by simp) (fun i hi=>by
  have hw:=bC (i+1) (by omega);by_cases hc:x=l[i]<;>simp[TJ,hi,hw,RR,hc]) (by simp[TJ]) (by simp)
 exact this
@[simp] def eQ7 (l:List Int)(x:Int)(h:l.length<=1000):O X 183 [.l (bQ l),.i .i64 x]=some (C5 (Lt l x)):=by refine aI (fc:=IY) rfl rfl rfl ?_;have hl:=eB2 (X:=X) l x h;cases hq:Lt l x<;>rw[hq] at hl<;>simp[IY,bA,hl,C5]
@[simp] def eR2 (l:List Int)(x:Int)(h:l.length<=1000):O X 140 [.l (bQ l),.i .i64 x]=some (.b (Lt l x).isSome):=by refine aI (fc:=FG) rfl rfl rfl ?_;have hl:=eQ7 (X:=X) l x h;cases hq:Lt l x<;>rw[hq] at hl<;>simp[C5] at hl<;>simp[FG,hl]
def dK9 (l:List Gl)(id:Int):(Dn l id).length<=40:=by unfold Dn;rw[List.length_reverse];exact Yz _ _ _
def CQ (l:List Gl)(id root:Int):Bool:=(Lt (Dn l id) root).isSome
@[simp] def aC8 (l:List Gl)(id root:Int)(h:l.length<=1000):O X 91 [.l (kQ l),.i .i64 id,.i .i64 root]=some (.b (CQ l id root)):=by refine aI (fc:=ON) rfl rfl rfl ?_;have h1:=eR1 (X:=X) l id h;have h2:=eR2 (X:=X) (Dn l id) root (by have:=dK9 l id;omega);unfold CQ;generalize Dn l id=p at h1 h2;simp[ON,h1,h2]
end Go.Proofs.YtdlpbedneamebaaGreatDoor
namespace Go.Proofs.YtdlpbedneamebaaGreatDoor
open Go.VM
variable {X:aU}
def NK (l:List iN)(id:Int)(i:Nat):Option Nat:=match l[i]? with|some a=>if a.id=id then some i else none|none=>none
def mP (l:List iN)(id:Int):Option Nat:=(List.range l.length).findSome? (NK l id)
def Lu {l:List iN}{id:Int}{i:Nat}(h:mP l id=some i):∃hi:i<l.length,l[i].id=id:=by unfold mP at h;obtain⟨k,hk,hp⟩:=QC h;have gD:k<l.length:=nH.1 hk;simp[NK,gD] at hp;obtain⟨h1,rfl⟩:=hp;exact⟨gD,h1⟩
def a0:iN:=⟨0,0,0,0,[],[],[]⟩
def aV (l:List iN):Option Nat->V
 |some i=>match l[i]? with
  |some a=> .t [a.v,.b true]|none=> .t [a0.v,.b false]
 |none=> .t [a0.v,.b false]
def eQ8 (a:iN)(id:Int):O X 153 [a.v,.r [.i .i64 id]]=some (.b (decide (a.id=id))):=by refine aI (fc:=HC) rfl rfl rfl ?_;simp[HC]
def eC3 (l:List iN)(id:Int)(h:l.length<=1000):bP (O X) [0,1,7,8] Pm [(0,.l (aC6 l)),(1,.f (.func 153) [] [.r [.i .i64 id]]),(7,.i .i64 l.length),(8,.i .i64 0)]=some (oM (fun(i:Nat)=>(.r,[(4,.i .i64 i)])) (.e 0,[]) (mP l id)):=by
 have:=wK (o:=O X) (kin:=[0,1,7,8]) (c:=Pm) (fun i=>[(0,.l (aC6 l)),(1,.f (.func 153) [] [.r [.i .i64 id]]),(7,.i .i64 l.length),(8,.i .i64 i)]) l.length (NK l id) (fun(i:Nat)=>(.r,[(4,.i .i64 i)])) (.e 0,[]) (by simp) (by simp) (fun i hi=>by
  have hw:=bC (i+1) (by omega);have h52:=eQ8 (X:=X) l[i] id;by_cases hc:l[i].id=id;subst hc;simp at h52;simp[Pm,hi,NK,h52];simp[hc] at h52;simp[Pm,hi,hw,NK,hc,h52]) (by simp[Pm]) (by simp)
 exact this
def eQ9 (l:List iN)(id:Int)(h:l.length<=1000):O X 152 [.l (aC6 l),.f (.func 153) [] [.r [.i .i64 id]]]=some (C5 (mP l id)):=by refine aI (fc:=GL) rfl rfl rfl ?_;have hl:=eC3 (X:=X) l id h;cases hq:mP l id<;>rw[hq] at hl<;>simp[GL,bA,hl,C5]
def eR4 (b:cD)(id:Int)(h:b.accounts.length<=1000):O X 104 [b.v,.i .i64 id]=some (C5 (mP b.accounts id)):=by refine aI (fc:=CC) rfl rfl rfl ?_;have h1:=eQ9 (X:=X) b.accounts id h;cases hq:mP b.accounts id<;>rw[hq] at h1<;>simp[C5] at h1<;>simp[CC,h1,C5]
def Fg (b:cD)(id:Int)(h:b.accounts.length<=1000):O X 62 [b.v,.i .i64 id]=some (aV b.accounts (mP b.accounts id)):=by
 refine aI (fc:=WD) rfl rfl rfl ?_;have h1:=eR4 (X:=X) b id h;cases hq:mP b.accounts id with
 |none=>rw[hq] at h1;simp[C5] at h1;simp[WD,h1,aV,a0]
 |some i=>
  obtain⟨hi,_⟩:=Lu hq;have h2:¬(i:Int)<0:=by omega
  rw[hq] at h1;simp[C5] at h1;simp[WD,h1,h2,hi,aV]
def eB3 (b:cD)(id:Int)(h:b.accounts.length<=1000):bP (O X) [1,2,4,6] TK [(1,.i .i64 id),(2,.bx b.cells),(4,.bx a0.cells),(6,.i .i64 0)]=some (oM (fun(i:Nat)=>(.r,[(4,.bx ((b.accounts[i]?.getD a0).cells)),(5,.b true)])) (.e 0,[(4,.bx a0.cells)]) (mP b.accounts id)):=by
 have:=wK (o:=O X) (kin:=[1,2,4,6]) (c:=TK) (fun i=>[(1,.i .i64 id),(2,.bx b.cells),(4,.bx a0.cells),(6,.i .i64 i)]) b.accounts.length (NK b.accounts id) (fun(i:Nat)=>(.r,[(4,.bx ((b.accounts[i]?.getD a0).cells)),(5,.b true)])) (.e 0,[(4,.bx a0.cells)]) (by simp) (by simp) (fun i hi=>by
  have hw:=bC (i+1) (by omega);by_cases hc:b.accounts[i].id=id<;>simp[TK,hi,hw,NK,hc]) (by simp[TK]) (by simp)
 exact this
def bV8 (b:cD)(id:Int)(h:b.accounts.length<=1000):O X 180 [b.v,.i .i64 id]=some (aV b.accounts (mP b.accounts id)):=by refine aI (fc:=WL) rfl rfl rfl ?_;have hl:=eB3 (X:=X) b id h;cases hq:mP b.accounts id with|none=>rw[hq] at hl;simp[a0] at hl;simp[WL,bA,hl,aV,a0]|some i=>obtain⟨hi,_⟩:=Lu hq;rw[hq] at hl;simp[a0,hi] at hl;simp[WL,bA,hl,aV,hi]
def owner (b:cD)(id:Int):Int:=if(lP b.chart id).isSome=true then id else if(mP b.accounts id).isSome=true then b.plan.deposits else 0
structure XT (b:cD):Prop where
 chart:b.chart.length<=1000
 accs:b.accounts.length<=1000
 curs:b.currencies.length<=1000
 jour:b.journal.length<=1000
 legs:∀e∈b.journal,e.legs.length<=1000
structure Rows (l:List kT):Prop where
 roots:∀r∈l,r.roots.length<=1000
 name:∀r∈l,r.name.length<=maxLen
end Go.Proofs.YtdlpbedneamebaaGreatDoor
