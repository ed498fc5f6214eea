/-
Plain laws and walks: part of the proof of the last text.
-/
import Derived.Test.YtdlpbedneamebaaGreatDoorTIB
import Derived.Test.YtdlpbedneamebaaGreatDoorTEB
set_option linter.all false
namespace Go.Proofs.YtdlpbedneamebaaGreatDoor
open Go.VM Go.RowKit
def lR (a:Int)(c:List UInt8):List Lg->Int
 |[]=>0|y::L=>(if y.acc=a/\y.cur=c then y.amt else 0)+lR a c L
def T8 (a:Int)(c:List UInt8):∀L M:List Lg,lR a c (L++M)=lR a c L+lR a c M
 |[],M=>by simp[lR]|y::L,M=>by simp only[A5,lR,T8 a c L M];omega
def cC3 (a:Int)(c:List UInt8)(n:Int):∀(L:List Lg) (i:Nat) (hi:i<L.length),w (lR a c (L.set i ⟨L[i].acc,IntKind.i64.wrap (L[i].amt+n),L[i].cur⟩))=w (lR a c L+if L[i].acc=a/\L[i].cur=c then n else 0)
 |[],i,hi=>by simp at hi|y::L,0,_=>by simp only[List.set_cons_zero,lR,Tu];split;unfold w;rw[CP];have:=(CP (a:=IntKind.i64.wrap (y.amt+n)) (b:=y.amt+n)).1 (bC _ (by rw[oV];omega));omega;simp|y::L,i+1,hi=>by have ih:=cC3 a c n L i (by simpa using hi);simp only[X8,lR,Tt];unfold w at ih⊢;rw[CP] at ih⊢;omega
def cC5 (a:Int)(c:List UInt8)(L:List Lg)(i:Nat)(x:Lg):lR a c (L.take i++x::L.drop i)=lR a c L+if x.acc=a/\x.cur=c then x.amt else 0:=by rw[T8,lR];have:=T8 a c (L.take i) (L.drop i);rw[DZ] at this;omega
def fB8 (a:Int)(c:List UInt8)(L:List Lg)(x:Lg):w (lR a c (tE L x))=w (lR a c L+if x.acc=a/\x.cur=c then x.amt else 0):=by unfold tE;split;rename_i y hy;obtain⟨hi,rfl⟩:=fE.1 hy;split;rename_i hs;rw[cC3 a c x.amt L _ hi,hs.1,hs.2];rw[cC5];rw[cC5]
def cC6 (a:Int)(c:List UInt8):∀(l L:List Lg),w (lR a c (l.foldl tE L))=w (lR a c L+lR a c l)
 |[],L=>by simp[lR]|x::l,L=>by rw[uO,cC6 a c l,lR];have:=fB8 a c L x;unfold w at this⊢;rw[CP] at this⊢;omega
def N6 (L:List Lg):Prop:=∀y∈L,bR y.amt
def eU7 {L:List Lg}{x:Lg}(hL:N6 L)(hx:bR x.amt):N6 (tE L x):=by
 have ins:N6 (L.take (gA L x)++x::L.drop (gA L x)):=fun y hy=>by rcases iC.1 hy with hy|hy;exact hL y (qF hy);rcases eP.1 hy with rfl|hy;exact hx;exact hL y (qX hy)
 unfold tE;split;split;intro y hy;rcases Tx hy with hy|rfl;exact hL y hy;exact aR8 _;exact ins;exact ins
def bS7:∀(l L:List Lg),N6 L->N6 l->N6 (l.foldl tE L)
 |[],_,h,_=>h|x::l,L,h,hl=>bS7 l _ (eU7 h (hl x (dC ..))) fun y hy=>hl y (dL _ hy)
def UD {a:Int}{c:List UInt8}:∀{L:List Lg},(∀y∈L,¬(y.acc=a/\y.cur=c))->lR a c L=0
 |[],_=>rfl|y::L,h=>by rw[lR,aK (h y (dC ..)),UD fun x hx=>h x (dL _ hx)];rfl
def cC4:∀{L:List Lg},yP L->∀{y:Lg},y∈L->lR y.acc y.cur L=y.amt
 |[],_,y,hy=>by cases hy|x::L,hs,y,hy=>by have hp:=vT.1 hs;rcases eP.1 hy with rfl|hy;have h0:lR y.acc y.cur L=0:=UD fun z hz h=>Lg.lt_irrefl y (Lg.lt_same (hp.1 z hz) h);rw[lR,aY ⟨rfl,rfl⟩,h0,Int.add_zero];have h0:¬(x.acc=y.acc/\x.cur=y.cur):=fun h=>Lg.lt_irrefl x (Lg.lt_same (hp.1 y hy) ⟨h.1.symm,h.2.symm⟩);rw[lR,cC4 hp.2 hy,aK h0,Tj]
def Nh {n:Int}(h:bR n):w n=n:=bC _ ⟨h.1,h.2⟩
def dR8 {l:List bG}{a:Int}{c:List UInt8}(hl:∀x∈l,bR x.amount)(hS:bR (lR a c (l.map sU)))(h0:lR a c (l.map sU)≠0):∃y∈Dr l,y.acc=a/\y.cur=c/\y.amt=lR a c (l.map sU):=by
 have hs:yP (yJ (l.map sU)):=aB5 _ _ List.Pairwise.nil;have Cg:w (lR a c (yJ (l.map sU)))=w (lR a c (l.map sU)):=by have:=cC6 a c (l.map sU) [];rw[lR,Tj] at this;exact this
 have cR:N6 (yJ (l.map sU)):=bS7 _ _ (fun _ h=>by cases h) fun y hy=>by obtain⟨x,hx,rfl⟩:=jL.1 hy;exact hl x hx
 by_cases mG:∃y∈yJ (l.map sU),y.acc=a/\y.cur=c;obtain⟨y,hy,h1,h2⟩:=mG;have h3:=cC4 hs hy;rw[h1,h2] at h3;rw[h3,Nh (cR y hy),Nh hS] at Cg;exact⟨y,vS.2 ⟨hy,by rw[Cg];simpa using h0⟩,h1,h2,Cg⟩;rw[UD fun y hy h=>mG ⟨y,hy,h⟩,Nh hS] at Cg;have:w 0=0:=Nh ⟨by omega,by omega⟩;rw[this] at Cg;exact absurd Cg.symm h0
def aR7 (n:Int):wrap64 n=IntKind.i64.wrap n:=by unfold wrap64;rw[oV]
def Bh (a:Int):List bG->Int
 |[]=>0|x::l=>(if x.account=a then x.amount else 0)+Bh a l
def yN (a:Int):List aW->Int
 |[]=>0|e::j=>yN a j - Bh a e.legs
def ZM (a:Int):∀(l:List bG) (n:Int),w (((l.filter fun x=>x.account=a).foldl (fun s x=>wrap64 (s - x.amount)) n))=w (n - Bh a l)
 |[],n=>by simp[Bh]
 |x::l,n=>by
  by_cases h:x.account=a;have hf:((x::l).filter fun x=>x.account=a)=x::l.filter fun x=>x.account=a:=by simp[h]
  rw[hf,uO,ZM a l,Bh,aY h];rw[aR7];have:=(CP (a:=IntKind.i64.wrap (n - x.amount)) (b:=n - x.amount)).1 (bC _ (by rw[oV];omega));unfold w;rw[CP];omega;have hf:((x::l).filter fun x=>x.account=a)=l.filter fun x=>x.account=a:=by simp[h]
  rw[hf,ZM a l,Bh,aK h,Tj]
def bI5 (a:Int):∀(j:List aW) (n:Int),w ((mv a j).foldl (fun s x=>wrap64 (s - x.2)) n)=w (n+yN a j)
 |[],n=>by simp[mv,yN]|e::j,n=>by have e1:mv a (e::j)=((e.legs.filter fun x=>x.account=a).map fun x=>(e,x.amount))++mv a j:=rfl;rw[e1,JL,bI5 a j,Tp,yN];have:w ((e.legs.filter fun x=>x.account=a).foldl (fun s x=>wrap64 (s - (e,x.amount).snd)) n)=w (n - Bh a e.legs):=ZM a e.legs n;unfold w at this⊢;rw[CP] at this⊢;omega
structure JB (j:List aW):Prop where
 len:j.length<=400
 legs:∀e∈j,e.legs.length<=12
 amt:∀e∈j,∀x∈e.legs,-1000000000000<=x.amount/\x.amount<=1000000000000
def YM (a:Int):∀(l:List bG),(∀x∈l,-1000000000000<=x.amount/\x.amount<=1000000000000)->-(l.length*1000000000000:Int)<=Bh a l/\Bh a l<=l.length*1000000000000
 |[],_=>by simp[Bh]|x::l,h=>by have ih:=YM a l fun y hy=>h y (dL _ hy);have hx:=h x (dC ..);simp only[Bh,fY];split<;>constructor<;>omega
def XR (a:Int):∀(j:List aW),(∀e∈j,e.legs.length<=12)->(∀e∈j,∀x∈e.legs,-1000000000000<=x.amount/\x.amount<=1000000000000)->-(j.length*12000000000000:Int)<=yN a j/\yN a j<=j.length*12000000000000
 |[],_,_=>by simp[yN]|e::j,h1,h2=>by have ih:=XR a j (fun x hx=>h1 x (dL _ hx)) fun x hx=>h2 x (dL _ hx);have hs:=YM a e.legs (h2 e (dC ..));have hl:=h1 e (dC ..);simp only[yN,fY];constructor<;>omega
def RD {j:List aW}(h:JB j)(a:Int):oN a j=yN a j:=by
 have h1:=bI5 a j 0;rw[Tj] at h1;have hb:=XR a j h.legs h.amt;have hl:=h.len;have h2:w (yN a j)=yN a j:=Nh ⟨by omega,by omega⟩;rw[h2] at h1;have h3:bR ((mv a j).foldl (fun s x=>wrap64 (s - x.2)) 0):=by rcases List.eq_nil_or_concat (mv a j) with hm|⟨l,x,hm⟩;rw[hm];exact⟨by simp,by simp⟩;rw[hm,List.concat_eq_append,JL,uO,List.foldl_nil,aR7];exact aR8 _
 rw[Nh h3] at h1;exact h1
def JB.jok {j:List aW}(h:JB j):Go.Proofs.YtdlpbedneamebaaGreatDoor.jok j=true:=by simp only[Go.Proofs.YtdlpbedneamebaaGreatDoor.jok,fA,uS,eM];exact⟨h.len,fun e he=>by have:=h.legs e he;simp only[aC3,uS];omega⟩
def JB.bal {j:List aW}(h:JB j):N4 j:=⟨h.jok,fun id=>by
 rw[RD h];have hb:=XR id j h.legs h.amt;have hl:=h.len;omega⟩
def XE (a:Int):∀(j k:List aW),yN a (j++k)=yN a j+yN a k
 |[],k=>by simp[yN]|e::j,k=>by simp only[A5,yN,XE a j k];omega
def aZ7 {a:Int}{c:List UInt8}:∀{l:List bG},(∀x∈l,x.account=a->x.currency=c)->Bh a l=lR a c (l.map sU)
 |[],_=>rfl|x::l,h=>by have ih:=aZ7 (l:=l) fun y hy=>h y (dL _ hy);have hx:=h x (dC ..);simp only[Bh,fF,lR,sU,ih];by_cases e:x.account=a;rw[aY e,aY ⟨e,hx e⟩];rw[aK e,aK fun h=>e h.1]
end Go.Proofs.YtdlpbedneamebaaGreatDoor
namespace Go.Proofs.YtdlpbedneamebaaGreatDoor
open Go.VM
variable {X:aU}
def nI (b:cD)(js:List aW):cD:={b with journal:=js}
def u13 (hX:vN X)(b:cD)(id d:Int)(hj:N4 b.journal)(fl:Int)(F9:O X 30 [b.v,.i .i64 id,.i .i64 d]=some (.t [.i .i64 fl,.i .i64 0]))(wP:fl<=oN id b.journal):O X 13 [b.v,.i .i64 id,.i .i64 d]=some (.b true):=by have kF:=Dq hX b.journal id hj.1;exact aI (fc:=aM8) cV4 rfl rfl (by simp[aM8,F9,kF,wP])
def JB.post {j:List aW}{e:aW}(h:JB j)(hl:j.length<400)(hc:JI e)(n c:Int):JB (j++[pC e n c]):=by refine⟨by simp;omega,fun x hx=> ?_,fun x hx=> ?_⟩<;>rcases iC.1 hx with hx|hx;exact h.legs x hx;rw[uQ.1 hx];exact hc.len;exact h.amt x hx;rw[uQ.1 hx];exact fun y hy=>⟨(hc.legs y hy).2.2.1,(hc.legs y hy).2.2.2.1⟩
def dD8 (hX:vN X)(b:cD)(e:aW)(n c:Int)(h:qU b)(hj:JB b.journal)(hl:b.journal.length<400)(hc:JI e)(sC:∀x∈e.legs,NX X b x)(hF:∀y∈Dr e.legs,Kt X b e.booked y){x:bG}(hx:x∈e.legs)(h1000:1000<=x.account)
  (hfall:oN x.account (b.journal++[pC e n c])<oN x.account b.journal):O X 13 [(nI b (b.journal++[pC e n c])).v,.i .i64 x.account,.i .i64 e.booked]=some (.b true):=by
 have jH:=hj.post hl hc n c;rw[RD jH,RD hj,XE] at hfall;have e1:yN x.account [pC e n c]= -Bh x.account e.legs:=by simp[yN,pC]
 rw[e1] at hfall;have EH:∀y∈e.legs,y.account=x.account->y.currency=x.currency:=fun y hy he=>by obtain⟨_,h1⟩:=sC x hx h1000;obtain⟨_,h2⟩:=sC y hy (by omega);rw[he,h1] at h2;have h3:=uR h2;simp only[V.t.injEq,gG,V.s.injEq] at h3;exact h3.1.symm
 have hS:=aZ7 EH;have hbd:=YM x.account e.legs fun y hy=>⟨(hc.legs y hy).2.2.1,(hc.legs y hy).2.2.2.1⟩;have bT:=hc.len;have hI:bR (lR x.account x.currency (e.legs.map sU)):=by rw[<-hS];exact⟨by omega,by omega⟩
 obtain⟨y,hy,y1,y2,y3⟩:=dR8 (l:=e.legs) (a:=x.account) (c:=x.currency) (fun z hz=>⟨by have:=(hc.legs z hz).2.2.1;omega,by have:=(hc.legs z hz).2.2.2.1;omega⟩) hI (by rw[<-hS];omega);rw[<-hS] at y3;obtain⟨fl,F9,f1,f2,f3⟩:=hF y hy (by omega) (by omega);rw[y1] at F9 f3;rw[RD hj] at f3;have h30':O X 30 [(nI b (b.journal++[pC e n c])).v,.i .i64 x.account,.i .i64 e.booked]=some (.t [.i .i64 fl,.i .i64 0]):=by rw[dP6 b (nI b (b.journal++[pC e n c])) rfl rfl x.account e.booked h h.accs];exact F9
 refine u13 hX (nI b (b.journal++[pC e n c])) x.account e.booked jH.bal fl h30' ?_;show fl<=oN x.account (b.journal++[pC e n c]);rw[RD jH,XE,e1];omega
end Go.Proofs.YtdlpbedneamebaaGreatDoor
namespace Go.Proofs.YtdlpbedneamebaaGreatDoor
open Go.VM Go.RowKit
section
variable {X:aU}
def cJ2 (l:List aW)(k:List UInt8)(h:l.length<=1000):∃(x:aW) (t:Bool),O X 25 [.l (aB aW.v l),.s k]=some (.t [x.v,.b t])/\(t=false->x=Ru):=by obtain⟨z,hz,gC⟩:=u57 (X:=X) l k h;rcases gC with rfl|⟨i,rfl,hi⟩;exact⟨Ru,false,aI (fc:=Ip) Uk rfl rfl (by simp[Ip,hz,Ru]),fun _=>rfl⟩;exact⟨l[i],true,aI (fc:=Ip) Uk rfl rfl (by simp[Ip,hz,hi]),fun h=>by cases h⟩
def dK0 (hX:vN X)(hs:eL Tryz.prog (O X))(b:cD)(e:aW)(h:qU b)(hm:Kr b)(hj:JB b.journal)(hR:NS X b)(hf:XS e)(hn:O2 e):
  ∃(out:List V) (n:Int),PF Tryz.prog 11 [b.v,e.v] (.t [.a out,.i .i64 n])/\((n≠0/\out=z22)\/(n=0/\∃c:Int,out=(nI b (b.journal++[pC e ((b.journal.length:Int)+1) c])).cells/\JI e/\(∀x∈e.legs,NX X b x)/\(e.auth=0->∀y∈Dr e.legs,Kt X b e.booked y))):=by
 obtain⟨n24,nD,k24⟩:=t24 (X:=X) e hf;by_cases K8:n24≠0;refine⟨z22,n24,Qy hs b e n24 K8 ?_,.inl ⟨K8,rfl⟩⟩;exact dE4 rfl rfl rfl rfl rfl rfl rfl rfl rfl rfl rfl rfl rfl rfl rfl rfl rfl rfl rfl rfl rfl K8 nD b.v e.v;obtain rfl:n24=0:=XY.1 K8;have hC:=k24 rfl;have hl:e.legs.length<=1000:=fG hC.len (by decide);obtain⟨x25,t25,mT,k25⟩:=cJ2 (X:=X) b.journal e.key h.jour;cases t25 with|true=>refine⟨z22,12,Qy hs b e 12 (by decide) ?_,.inl ⟨by decide,rfl⟩⟩;exact dE3 rfl rfl rfl rfl rfl rfl rfl rfl rfl rfl rfl rfl rfl rfl rfl rfl rfl rfl rfl rfl rfl rfl rfl rfl rfl rfl rfl rfl rfl rfl rfl nD mT b.v e.v|false=>
 obtain⟨n26,CB,k26⟩:=u26 (X:=X) b e h hl;by_cases c26:n26≠0;refine⟨z22,n26,Qy hs b e n26 c26 ?_,.inl ⟨c26,rfl⟩⟩;exact dE2 rfl rfl rfl rfl rfl rfl rfl rfl rfl rfl rfl rfl rfl rfl rfl rfl rfl rfl rfl rfl rfl c26 rfl rfl rfl rfl rfl rfl rfl rfl rfl rfl nD mT CB b.v e.v;obtain rfl:n26=0:=XY.1 c26;obtain⟨n27,BE,k27⟩:=u27 hX b e h hm hj.bal hR hl;by_cases HK:n27≠0;refine⟨z22,n27,Qy hs b e n27 HK ?_,.inl ⟨HK,rfl⟩⟩;exact dE1 rfl rfl rfl rfl rfl rfl rfl rfl rfl rfl rfl rfl rfl rfl rfl rfl rfl rfl rfl rfl rfl HK rfl rfl rfl rfl rfl rfl rfl rfl rfl rfl nD mT CB BE b.v e.v;obtain rfl:n27=0:=XY.1 HK;obtain⟨js,n28,uE,k28⟩:=u28 hX.toER b.journal e h.jour hf hn;rcases k28 with⟨c28,rfl⟩|⟨rfl,c,rfl⟩;have bY:=dE0 (n:=n28) (o:=O X) rfl rfl rfl rfl rfl rfl rfl rfl rfl rfl rfl rfl rfl rfl rfl rfl rfl rfl rfl rfl rfl rfl rfl rfl rfl rfl rfl rfl rfl rfl rfl nD mT CB BE uE b.v e.v;exact⟨z22,n28,Qy hs b e n28 c28 bY,.inl ⟨c28,rfl⟩⟩;refine⟨_,0,bG5 hs b e (aB aW.v (b.journal++[pC e ((b.journal.length:Int)+1) c])) nD ?_ CB BE uE (by simp) (fG h.jour (by decide)),.inr ⟨rfl,c,rfl,hC,k26 rfl,k27 rfl⟩⟩;rw[mT,k25 rfl];rfl
end
end Go.Proofs.YtdlpbedneamebaaGreatDoor
