/-
Plain laws and walks: part of the proof of the last text.
-/
import Derived.Test.YtdlpbedneamebaaGreatDoorTS
import Derived.Test.YtdlpbedneamebaaGreatDoorTT
set_option linter.all false
namespace Go.Proofs.YtdlpbedneamebaaGreatDoor
open Go.RowKit Go.Shelf Go.VM
attribute [local go_sem] Oper.semAt_some
def dL6 {W:World}{b b':Nat}(hb:b'<=b){e:TypeId}{size k:Nat}{v:Value}{xs:List Value}(h:W.ownsRow b e size v k xs):W.ownsRow b' e size v k xs:=by refine⟨h.1,?_⟩;rcases h.2 with h|⟨g,cap,cur,h1,h2,h3⟩;exact .inl h;exact .inr ⟨g,cap,cur,h1,by omega,h3⟩
def dF1 {W:World}{b:Nat}{e:TypeId}{size k:Nat}{v:Value}{xs:List Value}(h:W.ownsRow b e size v k xs):∀(j:Nat) (o:Obj),v.ownBlock=some j->W.heap[j]? =some o->o.isCells=true:=by
 intro j o hj ho;rcases h.2 with⟨rfl,_⟩|⟨g,cap,cur,rfl,_,hg,_⟩;simp[Value.ownBlock] at hj;obtain rfl:g=j:=by simpa[Value.ownBlock] using hj
 rw[hg] at ho;cases ho;rfl
def bD0 {W:World}{b:Nat}{e:TypeId}{size k:Nat}{v:Value}{xs:List Value}(h:W.ownsRow b e size v k xs):∀j,v.ownBlock=some j->b<=j:=by
 intro j hj;rcases h.2 with⟨rfl,_⟩|⟨g,cap,cur,rfl,hb,_⟩;simp[Value.ownBlock] at hj;obtain rfl:g=j:=by simpa[Value.ownBlock] using hj
 exact hb
def Kj (l:iM)(x:GK):iM:=AB l (x.1,x.2.2) (wrap64 (qA l (x.1,x.2.2)+x.2.1))
def yO (l:iM)(xs:List GK):iM:=xs.foldl Kj l
def tW (es:List Ev):iM:=es.foldl (fun l e=>yO l e.legs) []
def fD0 {l:iM}{xs:List GK}{m:Nat}{x:GK}(h:xs[m]? =some x):yO l (xs.take (m+1))=Kj (yO l (xs.take m)) x:=by unfold yO;rw[UB,h,JL];rfl
def cY7 {es:List Ev}{k:Nat}{e:Ev}(h:es[k]? =some e):tW (es.take (k+1))=yO (tW (es.take k)) e.legs:=by unfold tW;rw[UB,h,JL];rfl
def GJ (W:World)(b:Nat)(l:iM):Prop:=∃es clock,W.heap[b]? =some (.map es clock)/\fT es clock l
def GJ.alloc {W:World}{b:Nat}{l:iM}(h:GJ W b l)(o:Obj):GJ (W.alloc o) b l:=by obtain⟨es,clock,h1,h2⟩:=h;exact⟨es,clock,(Kz W o b (j6.1 h1).1).trans h1,h2⟩
def bH0 {α:Type}{a:α}:∀{l:List α} {i:Nat},l[i]? =some a->(a::l.eraseIdx i).Perm l
 |[],_,h=>by simp at h|x::r,0,h=>by simp only[D7,aH] at h;subst h;exact .refl _|x::r,i+1,h=>by simp only[HY] at h;rw[List.eraseIdx_cons_succ];exact(List.Perm.swap x a _).trans ((bH0 h).cons x)
def bB6 (k:lS)(n:Int):∀l:iM,(AB l k n).length<=l.length+1
 |[]=>dD _|(k',v)::r=>by unfold AB;split;simp;have:=bB6 k n r;simp only[fY];omega
def cD3:∀(xs:List GK) (l:iM),(yO l xs).length<=l.length+xs.length
 |[],l=>by simp[yO]|x::xs,l=>by have h1:yO l (x::xs)=yO (Kj l x) xs:=rfl;have h2:=cD3 xs (Kj l x);have h3:=bB6 (x.1,x.2.2) (wrap64 (qA l (x.1,x.2.2)+x.2.1)) l;rw[h1];unfold Kj at h2⊢;simp only[fY];omega
def aZ4 {es:List Ev}(h:∀e∈es,e.legs.length<=400):(tW es).length<=es.length*400:=by
 have key:∀(es:List Ev) (l:iM),(∀e∈es,e.legs.length<=400)->(es.foldl (fun l e=>yO l e.legs) l).length<=l.length+es.length*400:=by intro es;induction es with|nil=>intro l _;simp|cons e es ih=>intro l h;rw[uO];have h1:=ih (yO l e.legs) fun x hx=>h x (dL _ hx);have h2:=cD3 e.legs l;have h3:=h e (dC ..);simp only[fY];omega
 have:=key es [] h;simp only[vR,E0] at this;exact this
def Ca (x:lS×Int):List Value:=[.int .i64 x.1.1,.int .i64 x.2,.string x.1.2]
def rX (T:iM):iM:=T.filter fun x=>x.2 !=0
structure Rng (N r:Nat) (tD:Array MapEntry) (clock:Nat) (l T:iM) (v:Value) (W:World):Prop where
 it:∃seen c L,W.heap[r]? =some (.mapIter (some N) clock seen c)/\clock<=c/\(leftOf tD seen).toList.map (fun e=>(e.key,e.val))=L.map IS/\(T++L).Perm l
 map:W.heap[N]? =some (.map tD clock)
 row:W.ownsRow (N+1) 61 3 v (rX T).length ((rX T).flatMap Ca)
def Oo (r:Nat)(tD:Array MapEntry)(W:World):Nat:=match W.heap[r]? with|some (.mapIter _ _ seen _)=>(leftOf tD seen).size|_=>0
def RG (T srt:iM):Prop:=∀(W:World) (aD:Nat) (u:Value),aD<=W.heap.size->W.ownsRow aD 61 3 u T.length (T.flatMap Ca)->
 Calls Tryz.prog 31 #[u,.func (.func 32) #[] #[]] W fun ex W'=>ex= .returned (.tuple #[])/\W.grownBy W' u.ownBlock/\W'.ownsRow aD 61 3 u srt.length (srt.flatMap Ca)
def dL7 (T:iM)(k:lS):rX (T++[(k,0)])=rX T:=by simp[rX]
def dL8 (T:iM)(k:lS){n:Int}(h:n≠0):rX (T++[(k,n)])=rX T++[(k,n)]:=by simp[rX,h]
def bN1 {r:Nat}{tD:Array MapEntry}{W:World}{m:Option Nat}{s c:Nat}{seen:Array Nat}(h:W.heap[r]? =some (.mapIter m s seen c)):Oo r tD W=(leftOf tD seen).size:=by unfold Oo;rw[h]
def eG7:(Tryz.prog.info? 61).map (fun i=>(i.zero,i.size,i.bytes))=some (some (.agg #[.int .i64 0,.int .i64 0,.string ⟨#[]⟩]),3,32):=by kernel_rfl
set_option maxRecDepth 100000 in
set_option maxHeartbeats 4000000 in
def cO0 (n:Nat)(hn:3<=n)(a:Option Addr)(cap:Nat)(es:List Ev)(w:World)(bT:es.length<=400)(Aw:∀e∈es,e.legs.length<=400)(aA5:∀e∈es,∀x∈e.legs,NZ (x.1,x.2.2))
  (hE:w7 (fun b=>b<w.heap.size) w a es){srt:iM}(hS:∀T:iM,T.Perm (tW es)->RG (rX T) srt):
  CallsIn Fence.wide n Tryz.prog 14 #[.slice a es.length cap] w fun e W'=>∃v,e= .returned v/\W'.ownsRow w.heap.size 61 3 v srt.length (srt.flatMap Ca)/\Below w.heap.size w W':=by
 have lD:Fence.wide.round=none:=rfl;have h1:1<=n:=by omega
 have F9:Fence.wide.fn 31:=trivial;have hmm:= @run_makeMap Tryz.prog;obtain⟨N,hN⟩:∃N,w.heap.size=N:=⟨_,rfl⟩;refine callsIn_of_wp Tryz.func14 rfl trivial ?_ lD;simp only[Tryz.ntmps14,rL,fY,vR,Nat.reduceAdd,Nat.reduceSub,Td,Te,Tz,Tk,DY,A5]
 gi_wp2
 rw[hN] at hE
 gi_loopw [14] (fun i wr=>∃k:Nat,k<=es.length/\i= .int .i64 k/\GJ wr N (tW (es.take k))/\Below N w wr)
  (fun i _=>es.length - (intOf i).toNat)
 case atStart=>exact⟨0,A6 _,rfl,⟨#[],0,by rw[<-hN];exact World.alloc_heap_new w _,fT.nil⟩,by rw[<-hN];exact(cZ _ w).alloc (dD _) _⟩
 case round=>
  obtain⟨k,hk,rfl,hM,hB⟩:=hrel;obtain⟨w1,rfl⟩:∃w1,w1=wr:=⟨wr,rfl⟩;have hEw:=hE.bel (fun b hb=>hb) hB;have hNw:=hB.size;by_cases bE:k<es.length
  ·obtain⟨e,he⟩:∃e,es[k]? =some e:=⟨_,eI bE⟩;have wP:=Aw e (k6 he);have uB:=aA5 e (k6 he);obtain rfl|⟨b,o,rfl,hb,hc⟩:=hEw;cases bE;obtain⟨⟨h0,h1,h2,h3,h4,h5,h6,h7,h8,h9⟩,hL⟩:=hc k e he
   gi_wp2
   gi_loopw [21] (fun i wr=>∃m:Nat,m<=e.legs.length/\i= .int .i64 m/\GJ wr N (yO (tW (es.take k)) (e.legs.take m))/\Below N w wr)
    (fun i _=>e.legs.length - (intOf i).toNat)
   case atStart=>exact⟨0,A6 _,rfl,hM.alloc _,hB.alloc (by omega) _⟩
   case round=>
    obtain⟨m,hm,rfl,hM2,BC⟩:=hrel;by_cases Gw:m<e.legs.length
    ·obtain⟨x,hx⟩:∃x,e.legs[m]? =some x:=⟨_,eI Gw⟩;have hkx:=uB x (k6 hx);have hsx:=fD0 (l:=tW (es.take k)) hx;obtain⟨xa,xm,xs⟩:=x;have hEr:=hE.bel (fun b hb=>hb) BC;rcases hEr with hEr|⟨b',o',fW,fD,wS⟩;rw[hEr] at bE;cases bE;cases fW;rcases(wS k e he).2 with hL'|⟨b2,o2,hla,EI,cK⟩;rw[hL'] at Gw;cases Gw;obtain⟨l0,l1,l2⟩:=cK m _ hx;dsimp only at l0 l1 l2;obtain⟨i0,i1,i2,i3,i4,i5,s6,s7,la,lc,legs,u9⟩:=e;dsimp only at*;subst hla;obtain⟨bW,qT,hM3,hM4⟩:=hM2
     gi_wp2
     have pV:=World.alloc_heap_new wr (.cells #[.int .i64 xa,.int .i64 xm,.string xs] 61);have hBx:=BC.alloc (by have:=BC.size;omega) (.cells #[.int .i64 xa,.int .i64 xm,.string xs] 61);refine wpIn_wide.2 (dI0 (b:=N) (X:=wr.heap.size) (k:=(xa,xs)) (am:=xm) rfl rfl rfl ((Kz wr _ N (j6.1 hM3).1).trans hM3) hM4 hkx (by unfold World.cell?;rw[pV];rfl) (by unfold World.cell?;rw[pV];rfl) (by unfold World.cell?;rw[pV];rfl) (by kernel_rfl) ?_);intro st w2 es2 DP hg hb2' Cr
     gi_wp2
     exact⟨⟨m+1,by omega,by simp,⟨es2,DP,hb2',by rw[hsx];exact Cr⟩,hBx.drew.grown hg (by rw[<-hN];exact hBx.drew.size) (fun k e=>by cases e;exact dD _)⟩,by simp[intOf];omega⟩
    ·obtain rfl:m=e.legs.length:=by omega
     gi_wp2
     rw[D0] at hM2;exact⟨⟨k+1,by omega,by simp,by rw[cY7 he];exact hM2,BC⟩,by simp[intOf];omega⟩
  ·obtain rfl:k=es.length:=by omega
   rw[D0] at hM;obtain⟨tD,clock,hM1,hM2⟩:=hM;have D':=run_range_map (P:=Tryz.prog) w1 85 87 3 N tD clock Tryz.underlying85 hM1;have hsw:=hB.size;rw[hN] at hsw;obtain⟨ii,hi,Dw,FH,vC⟩:=info_parts eG7;have hNlt:=(j6.1 hM1).1;obtain⟨r,hr⟩:∃r,w1.heap.size=r:=⟨_,rfl⟩;rw[hr] at D' hNlt
   gi_wp2
   gi_loopw [8] (fun v wr=>∃T,Rng N r tD clock (tW es) T v wr/\Below N w wr/\r<wr.heap.size)
    (fun _ wr=>Oo r tD wr)
   case atStart=>refine⟨[],⟨⟨#[],clock,tW es,by rw[<-hr];exact World.alloc_heap_new w1 _,dD _,?_,by simp⟩,(Kz w1 _ N (by omega)).trans hM1,LJ _ _ _ _⟩,hB.alloc (by omega) _,by simp;omega⟩;rw[show leftOf tD #[]=tD by simp[leftOf]];exact hM2.eq
   case round=>
    obtain⟨T,⟨⟨seen,c,L,Ax,AK,oP,Vd⟩,R6,hrow⟩,hB3,nC⟩:=hrel;have vE:Oo r tD wr=(leftOf tD seen).size:=by unfold Oo;rw[Ax]
    rcases run_next_at (P:=Tryz.prog) wr 0 r N clock c seen tD clock Ax R6 hM2.born AK with⟨h0,hnx⟩|⟨e,he,wq,hwq,hnx⟩
    ·have hL0:L=[]:=by
      have h1:=jV List.length oP;simp only[uP,tJ] at h1;exact pL (by omega)
     subst hL0;rw[A4] at Vd
     gi_wp2
     refine(callsIn_wide.2 (hS T Vd wr (N+1) u8 (by omega) hrow)).mono ?_;rintro e w2 ⟨rfl,hg,Ar⟩;have hB5:=hB3.grown hg (by have:=hB3.size;omega) (fun k e=>by have:=bD0 hrow k e;omega)
     gi_wp2
     go_ret
     exact⟨_,rfl,dL6 (by omega) Ar,by rw[hN];exact hB5⟩
    ·obtain⟨i,EC⟩:=QD he;have kY:=jV (fun l=>l[i]?) oP;simp only[kG,EC,eB] at kY;obtain⟨kn,mS⟩:∃kn,L[i]? =some kn:=by
      cases hl:L[i]? with|none=>rw[hl] at kY;cases kY|some kn=>exact⟨kn,rfl⟩
     rw[mS] at kY;obtain⟨⟨ka,ks⟩,n0⟩:=kn;simp only[eB,aH,IS,jY,cM] at kY;obtain⟨nQ,iY⟩:=kY;have hwh:wq.heap=wr.heap:=by rcases hwq with rfl|rfl<;>rfl
     obtain⟨w2,eZ⟩:∃w2,ChangeMaps.setBlock wq r (.mapIter (some N) clock (seen.push e.born) clock)=w2:=⟨_,rfl⟩;rw[eZ,nQ,iY] at hnx;have hit2:w2.heap[r]? =some (.mapIter (some N) clock (seen.push e.born) clock):=by rw[<-eZ];exact Y1 (by rw[hwh];exact Ax)
     have wO:∀b,b≠r->w2.heap[b]? =wr.heap[b]? :=fun b hb=>by rw[<-eZ,Uz hb,hwh]
     have Ou:w2.heap.size=wr.heap.size:=by rw[<-eZ,Y0,hwh]
     have Ve:w2.heap[N]? =some (.map tD clock):=(wO N (by omega)).trans R6;have gQ:=run_entry_at (P:=Tryz.prog) w2 r N clock seen tD clock e hit2 Ve (mem_left he).1 hM2.nodup;rw[nQ,iY] at gQ;have sD:wr.grownBy w2 (some r):=⟨by rw[<-eZ];rcases hwq with rfl|rfl<;>rfl,by rw[<-eZ];rcases hwq with rfl|rfl<;>rfl,by rw[<-eZ];rcases hwq with rfl|rfl<;>rfl,by omega,fun k _ hk=>wO k fun e=>hk (by rw[e])⟩;have hiL:i<L.length:=(fE.1 mS).1;have Ar:w2.ownsRow (N+1) 61 3 u8 (rX T).length ((rX T).flatMap Ca):=hrow.kept sD (by
      rcases hrow.2 with⟨h,_⟩|⟨g,cap,cur,h,_,hg,_⟩;exact .inl (by rw[h];rfl);refine .inr fun e'=> ?_;rw[h] at e';obtain rfl:g=r:=by simpa[Value.ownBlock] using e'
      rw[hg] at Ax;cases Ax)
     have hB4:Below N w w2:=hB3.grown sD (by have:=hB3.size;omega) (fun k e=>by cases e;omega);have hle2:wr.heap.size<=w2.heap.size:=by omega
     have hL2:∃L',(leftOf tD (seen.push e.born)).toList.map (fun e=>(e.key,e.val))=L'.map IS/\(T++[((ka,ks),n0)]++L').Perm (tW es):=by refine⟨L.eraseIdx i,?_,?_⟩;rw[bN0 hM2.nodup EC,To,To,HZ,HZ,N9,LH,oP,N9,LH];refine List.Perm.trans ?_ Vd;rw[AZ];refine List.Perm.append_left T ?_;exact bH0 mS
     have Gw:(leftOf tD (seen.push e.born)).size<Oo r tD wr:=by rw[vE];exact left_shrinks tD seen e he
     have hTl:(rX T).length<=(tW es).length:=by have h1:(rX T).length<=T.length:=LG _ _;have h2:=Vd.length_eq;simp only[kH] at h2;omega
     clear eZ Ou wO vE;obtain⟨L',hL1,hL3⟩:=hL2;have hsl:=aZ4 Aw;by_cases hz:n0=0
     ·subst hz
      gi_wp2
      have R7:=(Kz w2 (.cells #[.int .i64 ka,.string ks] 87) r (by omega)).trans hit2;refine⟨⟨T++[((ka,ks),0)],⟨⟨_,_,L',R7,dD _,hL1,hL3⟩,(Kz w2 _ N (by omega)).trans Ve,by rw[dL7];exact Ar.alloc _⟩,hB4.alloc (by omega) _,by simp;omega⟩,?_⟩;rw[bN1 R7];exact Gw
     ·gi_wp2_with (gi_at_builtin;refine wpListIn_append_own _ rfl _ _ 56 rfl (N+1) 61 ii _ 3 32 Tryz.underlying56 hi Dw FH vC rfl (by decide) _ _ _ rfl ((Ar.alloc _).alloc _) _ 1 1 [.int .i64 ka,.int .i64 n0,.string ks] rfl rfl ?_ ?_ ?_ ?_ ?_ ?_)
      intro j u hj;have pV:=World.alloc_heap_new (w2.alloc (.cells #[.int .i64 ka,.string ks] 87)) (.cells #[.int .i64 ka,.int .i64 n0,.string ks] 61);rw[World.size_alloc] at pV;simp only[World.cell?,wZ,pV]
      match j,hj with|0,hj=>simpa[Addr.add] using hj|1,hj=>simpa[Addr.add] using hj|2,hj=>simpa[Addr.add] using hj|_+3,hj=>simp at hj
      intro u hu;simp only[eP,xG,xH] at hu;rcases hu with rfl|rfl|rfl<;>rfl;simp only[maxLen];omega;omega;simp;omega
      ·intro v' w3 FV R9 _
       gi_wp2
       have hlt3:∀b,b<w2.heap.size->((w2.alloc (.cells #[.int .i64 ka,.string ks] 87)).alloc (.cells #[.int .i64 ka,.int .i64 n0,.string ks] 61)).heap[b]? =w2.heap[b]? :=fun b hb=>(Kz _ _ b (by simp;omega)).trans (Kz _ _ b hb);have O':∀b,b<w2.heap.size->(∀o,w2.heap[b]? =some o->o.isCells=false)->w3.heap[b]? =w2.heap[b]? :=fun b hb ho=>(R9.block b (by simp;omega) fun e'=>by
        have:=dF1 ((Ar.alloc (.cells #[.int .i64 ka,.string ks] 87)).alloc (.cells #[.int .i64 ka,.int .i64 n0,.string ks] 61)) b _ e'.symm ((hlt3 b hb).trans (sL hb));rw[ho _ (sL hb)] at this;cases this).trans (hlt3 b hb)
       have R7:=(O' r (by omega) (fun o ho=>by rw[hit2] at ho;cases ho;rfl)).trans hit2;have hsz3:w2.heap.size<=w3.heap.size:=by have:=R9.size;simp at this;omega
       refine⟨⟨T++[((ka,ks),n0)],⟨⟨_,_,L',R7,dD _,hL1,hL3⟩,(O' N (by omega) (fun o ho=>by rw[Ve] at ho;cases ho;rfl)).trans Ve,?_⟩,?_,by omega⟩,?_⟩;rw[dL8 _ _ hz,kH,List.flatMap_append];exact FV;refine((hB4.alloc (by omega) _).alloc (by simp;omega) _).grown R9 (by simp;omega) fun k e=> ?_;have:=bD0 Ar k e;omega;rw[bN1 R7];exact Gw
end Go.Proofs.YtdlpbedneamebaaGreatDoor
namespace Go.Proofs.YtdlpbedneamebaaGreatDoor
open Go.Sort Go.Lib Go.Proofs Go.Shelf Go.RowKit Go.VM
def Du (x y:bG):Bool:=decide (x.account<y.account)||(decide (x.account=y.account)&&Op.bytesLess x.currency y.currency)
def MB (x:bG):List bG->List bG
 |[]=>[x]|y::r=>if Du y x=true then y::MB x r else x::y::r
def IV:List bG->List bG
 |[]=>[]|x::r=>MB x (IV r)
def bC4 (x y:bG):Prop:=x.account=y.account/\x.currency=y.currency
def RN {x y:bG}:Du x y=true↔x.account<y.account\/(x.account=y.account/\x.currency<y.currency):=by simp[Du,Y8]
def bM5 (x:bG):¬Du x x=true:=by rw[RN];rintro(h|⟨_,h⟩);omega;exact Tw _ h
def Zh {x y z:bG}(h1:Du x y=true)(h2:Du y z=true):Du x z=true:=by rw[RN] at*;rcases h1 with h1|⟨h1,jI⟩;rcases h2 with h2|⟨h2,_⟩<;>exact .inl (by omega);rcases h2 with h2|⟨h2,jT⟩;exact .inl (by omega);exact .inr ⟨by omega,List.lt_trans jI jT⟩
def bM4 (x y:bG):Du x y=true\/Du y x=true\/bC4 x y:=by rw[RN,RN];rcases Int.lt_trichotomy x.account y.account with h|h|h;exact .inl (.inl h);rcases Std.lt_trichotomy x.currency y.currency with h'|h'|h';exact .inl (.inr ⟨h,h'⟩);exact .inr (.inr ⟨h,h'⟩);exact .inr (.inl (.inr ⟨h.symm,h'⟩));exact .inr (.inl (.inl h))
def Zy (x:bG):∀l,(MB x l).Perm (x::l)
 |[]=> .refl _
 |y::r=>by
  unfold MB;split
  ·exact((Zy x r).cons y).trans (.swap x y r)
  exact .refl _
def RP:∀l,(IV l).Perm l
 |[]=> .refl _|x::r=>(Zy x _).trans ((RP r).cons x)
def KA (x y:bG):Prop:=¬Du y x=true
def bN2 {x y z:bG}(h1:KA x y)(h2:KA y z):KA x z:=fun h=>by rcases bM4 y x with h'|h'|h';exact h1 h';exact h2 (Zh h h');refine h2 ?_;rw[RN] at h⊢;rw[h'.1,h'.2];exact h
def bP8 (x:bG):∀l:List bG,l.Pairwise KA->(MB x l).Pairwise KA
 |[],_=>by simp[MB]|y::r,h=>by have h':=vT.1 h;unfold MB;split;rename_i bE;refine vT.2 ⟨fun z hz=> ?_,bP8 x r h'.2⟩;rcases eP.1 ((Zy x r).mem_iff.1 hz) with rfl|hz;exact fun h2=>bM5 _ (Zh bE h2);exact h'.1 z hz;rename_i bE;refine vT.2 ⟨fun z hz=> ?_,h⟩;rcases eP.1 hz with rfl|hz;exact bE;exact bN2 bE (h'.1 z hz)
def bO8:∀l:List bG,(IV l).Pairwise KA
 |[]=> .nil|x::r=>bP8 x _ (bO8 r)
def Gq (x:bG):Int×List UInt8:=(x.account,x.currency)
def eD4 {l:List bG}(hn:(l.map Gq).Nodup){x y:bG}(hx:x∈l)(hy:y∈l)(h:bC4 x y):x=y:=by
 obtain⟨i,hi⟩:=QD hx;obtain⟨j,hj⟩:=QD hy;have a1:(l.map Gq)[i]? =some (Gq x):=by simp[hi]
 have a2:(l.map Gq)[j]? =some (Gq x):=by simp[hj,Gq,h.1,h.2]
 have:=(List.getElem?_inj (fE.1 a1).1 hn).1 (a1.trans a2.symm);subst this;rw[hi] at hj;exact uR hj
def dC3 {l zs:List bG}(hn:(zs.map Gq).Nodup)(hp:l.Perm zs)(hs:l.Pairwise KA):l=IV zs:=by refine List.Perm.eq_of_pairwise (le:=KA) (fun x y hx hy h1 h2=> ?_) hs (bO8 zs) (hp.trans (RP zs).symm);refine eD4 hn (hp.mem_iff.1 hx) ((RP zs).mem_iff.1 hy) ?_;rcases bM4 x y with h|h|h;exact absurd h h2;exact absurd h h1;exact h
def m8 (x:lS×Int):bG:=⟨x.1.1,x.2,x.1.2.data.toList⟩
def KP (l:bG):lS×Int:=((l.account,⟨l.currency.toArray⟩),l.amount)
def eI4 (x:lS×Int):KP (m8 x)=x:=by simp[KP,m8]
def aO3 {a b:ByteArray}(h:a.data.toList=b.data.toList):a=b:=by cases a;cases b;simp only[ByteArray.mk.injEq] at*;exact w9.1 h
def WV (x y:lS×Int):Int:=WR (x.1.1,x.2,x.1.2) (y.1.1,y.2,y.1.2)
def V3 (x y:lS×Int):ltOf WV x y=Du (m8 x) (m8 y):=by
 unfold ltOf WV WR Du m8 HJ Lib.compareInt;dsimp only;by_cases h1:x.1.1<y.1.1;simp[h1];by_cases h2:y.1.1<x.1.1;have:¬x.1.1=y.1.1:=by omega
 simp[h1,h2,this];have h3:x.1.1=y.1.1:=by omega
 simp only[h3,Int.lt_irrefl,mW,gt_iff_lt,decide_false,Bool.false_or,decide_true,QB,jA];cases Op.bytesLess x.1.2.data.toList y.1.2.data.toList with|true=>simp|false=>simp only[qW,mW];split<;>simp
def cY3:SWO (ltOf WV) where
 irrefl x:=by rw[V3];exact QA.2 (bM5 _)
 trans x y z h1 h2:=by rw[V3] at*;exact Zh h1 h2
 ntrans x y z h1 h2:=by rw[V3] at*;exact QA.2 (bN2 (x:=m8 z) (y:=m8 y) (z:=m8 x) (QA.1 h2) (QA.1 h1))
def zA (x:lS×Int):V:=(m8 x).v
@[reducible] def eH6:cB:=⟨[],[]⟩
def dC4 {T zs:iM}(hn:((zs.map m8).map Gq).Nodup)(hp:T.Perm zs)(bT:T.length<=1000000):RG T ((IV (zs.map m8)).map KP):=by
 letI:cB:=eH6
 intro W aD u hb hrow;have eg:∀args w,(callFunc 32 args).run Tryz.prog w= .ok (.enter 32 args) w:=enters_of Tryz.func32 (by kernel_rfl) rfl;have cC:∀(S:Nat->Prop) (w:World) (vs:List Value) (x:lS×Int),aX S w vs (zA x).cells->vs=Ca x:=fun S w vs x hr=>by
  match vs,hr with|[a,b,c],hr=>have h0:aP S w a (.i .i64 x.1.1):=hr.2 0 a _ rfl rfl;have h1:aP S w b (.i .i64 x.2):=hr.2 1 b _ rfl rfl;have h2:aP S w c (.s x.1.2.data.toList):=hr.2 2 c _ rfl rfl;cases h0;cases h1;generalize hq:x.1.2.data.toList=q at h2;cases h2;rw[aO3 hq.symm];rfl|[],hr=>exact absurd hr.1 (by simp[zA,V.cells])|[_],hr=>exact absurd hr.1 (by simp[zA,V.cells])|[_,_],hr=>exact absurd hr.1 (by simp[zA,V.cells])|_::_::_::_::_,hr=>exact absurd hr.1 (by simp[zA,V.cells])
 have Vi:∀(S:Nat->Prop) (w:World) (x:lS×Int),aX S w (Ca x) (zA x).cells:=fun S w x=>aX.cons (.i _ _) (aX.cons (.i _ _) (aX.cons (.s _) aX.nil));have hPFM:=dC5 (P:=Tryz.prog) (e:=61) (k:=3) (g:=32) (enc:=Ca) (encV:=zA) (cf:=WV) (zs:=T) (ys:=(IV (zs.map m8)).map KP) Tryz.sortP Tryz.isAgg61 Tryz.sizeOf61 (by kernel_rfl) (fun _=>rfl)
  (fun x v hv=>by simp[Ca] at hv;rcases hv with rfl|rfl|rfl<;>rfl) (fun _=>rfl) (fun x c hc=>by simp[zA,V.cells] at hc;rcases hc with rfl|rfl|rfl<;>rfl) cC Vi cY3 eg
  (fun _ _ _ _ _ _ _ _ x y=>eW0 (x.1.1,x.2,x.1.2) (y.1.1,y.2,y.1.2) _)
  (fun l hl hs=>by
   have h:=dC3 (l:=l.map m8) hn ((hl.trans hp).map m8) (List.pairwise_map.2 (hs.imp fun h=>by rw[V3] at h;exact QA.1 h));rw[<-h,DX];exact(List.map_id'' (fun x=>eI4 x) l).symm) bT
 have reps_from:∀(l:iM),aX (fun _=>False) W (l.flatMap Ca) (cL (l.map zA)):=by intro l;induction l with|nil=>exact aX.nil|cons x r ih=>rw[fF,tC,D5];exact aX.append (Vi _ W x) ih
 have reps_to:∀(l:iM) (vs:List Value),aX (fun _=>False) W vs (cL (l.map zA))->vs=l.flatMap Ca:=by
  intro l;induction l with
  |nil=>intro vs h;exact pL h.1
  |cons x r ih=>
   intro vs h;rw[fF,tC] at h;have bT:=h.1;have hlx:(zA x).cells.length=3:=rfl;rw[kH,hlx] at bT;have rE:vs=vs.take 3++vs.drop 3:=(DZ 3 vs).symm;have ha:aX (fun _=>False) W (vs.take 3) (zA x).cells:=by refine⟨by rw[gO,hlx];omega,fun j v y hv hy=>h.2 j v y ?_ ?_⟩;have hj:j<(vs.take 3).length:=(fE.1 hv).1;rw[QE (by simp at hj;omega)] at hv;exact hv;have hj:j<(zA x).cells.length:=(fE.1 hy).1;rw[BU hj];exact hy
   have hb:aX (fun _=>False) W (vs.drop 3) (cL (r.map zA)):=by refine⟨by rw[oW];omega,fun j v y hv hy=>h.2 (3+j) v y ?_ ?_⟩;rw[xD] at hv;exact hv;rw[D6 (by rw[hlx];omega),hlx,Nat.add_sub_cancel_left];exact hy
   rw[rE,cC _ W _ x ha,ih _ hb,D5]
 have c44:Tryz.prog.cellsOf 61=3:=by kernel_rfl
 have cellsV:∀x∈T.map zA,x.cells.length=Tryz.prog.cellsOf 61:=fun x hx=>by obtain⟨y,_,rfl⟩:=jL.1 hx;rw[c44];rfl
 have cellV:∀x∈cL (T.map zA),x.cell=true:=fun x hx=>by obtain⟨y,hy,hx⟩:=sM.1 hx;obtain⟨z,_,rfl⟩:=jL.1 hy;simp[zA,V.cells] at hx;rcases hx with rfl|rfl|rfl<;>rfl
 refine(hPFM (fun _=>False) W aD u (T.flatMap Ca) [.func (.func 32) #[] #[]] (fun _ h=>h.elim) (fun p hp=>by cases hp) hb (by rw[uP,c44];exact hrow) cellsV cellV (reps_from T) (fun _ _ h=>h) (vO.cons (.of_rep (.f _ _ _ _ _ rfl rfl (by simp) (by simp))) .nil) (by simp)).mono fun ex w' ⟨r,v',dU,he,hg,hv,ho,_,_,hr,qO⟩=> ?_;simp only[qW,mW] at qO;obtain⟨rfl,rfl⟩:=qO;refine⟨he,hg,?_⟩;rw[uP,c44] at ho;rw[<-reps_to _ _ hr];exact ho
end Go.Proofs.YtdlpbedneamebaaGreatDoor
namespace Go.Proofs.YtdlpbedneamebaaGreatDoor
open Go.RowKit Go.VM
def vL:List bG->bG->List bG
 |[],x=>[⟨x.account,wrap64 (0+x.amount),x.currency⟩]|y::r,x=>if y.account=x.account/\y.currency=x.currency then⟨y.account,wrap64 (y.amount+x.amount),y.currency⟩::r else y::vL r x
def Qo (l:List aW):List bG:=l.foldl (fun s e=>e.legs.foldl vL s) []
def Bg (l:List aW):List bG:=IV ((Qo l).filter fun x=>x.amount !=0)
def Dv (x:bG):Bool:=(Lit.int .i64 x.account).wf&&decide (x.currency.length<=maxLen)
def fC7 (l:iM)(x:GK):(Kj l x).map m8=vL (l.map m8) (IR x):=by unfold Kj;induction l with|nil=>rfl|cons y r ih=>obtain⟨⟨ka,ks⟩,n⟩:=y;obtain⟨xa,xm,xs⟩:=x;simp only[qA,AB,fF,vL,m8,IR] at ih⊢;by_cases h:ka=xa/\ks=xs;obtain⟨rfl,rfl⟩:=h;simp[m8];have h1:¬((ka,ks)=(xa,xs)):=fun e=>h ⟨jV Prod.fst e,jV Prod.snd e⟩;have h2:¬(ka=xa/\ks.data.toList=xs.data.toList):=fun e=>h ⟨e.1,aO3 e.2⟩;rw[aK h1,aK h1,aK h2,fF];exact jV _ ih
def fD1 (xs:List GK):∀l:iM,(yO l xs).map m8=(xs.map IR).foldl vL (l.map m8):=by induction xs with|nil=>intro l;rfl|cons x xs ih=>intro l;have h1:yO l (x::xs)=yO (Kj l x) xs:=rfl;rw[h1,ih,fC7];rfl
def cY6 (es:List Ev):(tW es).map m8=Qo (es.map AP):=by
 have key:∀(es:List Ev) (l:iM),(es.foldl (fun l e=>yO l e.legs) l).map m8=(es.map AP).foldl (fun s e=>e.legs.foldl vL s) (l.map m8):=by intro es;induction es with|nil=>intro l;rfl|cons e es ih=>intro l;rw[uO,ih,fD1,fF,uO];rfl
 exact key es []
def bB7 (k:lS)(n:Int):∀l:iM,(l.map (·.1)).Nodup->((AB l k n).map (·.1)).Nodup/\∀x∈AB l k n,x.1=k\/∃y∈l,y.1=x.1
 |[],_=>by simp[AB]|(k',v)::r,h=>by unfold AB;split;rename_i he;refine⟨h,fun x hx=> ?_⟩;rcases eP.1 hx with rfl|hx;exact .inl he;exact .inr ⟨x,dL _ hx,rfl⟩;rename_i he;simp only[fF,JM] at h;have ih:=bB7 k n r h.2;refine⟨?_,fun x hx=> ?_⟩;rw[fF];refine JM.2 ⟨fun hm=> ?_,ih.1⟩;obtain⟨x,hx,hxk⟩:=jL.1 hm;rcases ih.2 x hx with h1|⟨y,hy,h1⟩;exact he (hxk.symm.trans h1);exact h.1 (jL.2 ⟨y,hy,h1.trans hxk⟩);rcases eP.1 hx with rfl|hx;exact .inr ⟨_,dC ..,rfl⟩;rcases ih.2 x hx with h1|⟨y,hy,h1⟩;exact .inl h1;exact .inr ⟨y,dL _ hy,h1⟩
def cY8 (es:List Ev):((tW es).map (·.1)).Nodup:=by
 have h1:∀(xs:List GK) (l:iM),(l.map (·.1)).Nodup->((yO l xs).map (·.1)).Nodup:=by intro xs;induction xs with|nil=>intro l h;exact h|cons x xs ih=>intro l h;exact ih _ (bB7 _ _ l h).1
 have h2:∀(es:List Ev) (l:iM),(l.map (·.1)).Nodup->((es.foldl (fun l e=>yO l e.legs) l).map (·.1)).Nodup:=by intro es;induction es with|nil=>intro l h;exact h|cons e es ih=>intro l h;exact ih _ (h1 _ _ h)
 exact h2 es [] (by simp)
def dL9 (l:iM):(rX l).map m8=(l.map m8).filter fun x=>x.amount !=0:=by unfold rX;rw[List.filter_map];rfl
def bG9 [cB]{f:FuncId}{w:World}{S:Nat->Prop}{args:Array Value}{e:TypeId}{k:Nat}{es:List V}(hS:∀b,S b->b<w.heap.size)(hc:Tryz.prog.cellsOf e=k)(hk:∀x∈es,x.cells.length=k)(h1:∀x∈cL es,x.cell=true){vals:List Value}(hr:∀(S:Nat->Prop) (w':World),aX S w' vals (cL es))
  (h:Calls Tryz.prog f args w fun ex w'=>∃v,ex= .returned v/\w'.ownsRow w.heap.size e k v es.length vals/\Below w.heap.size w w'):
  Calls Tryz.prog f args w fun ex w'=>∃v,ex= .returned v/\Below w.heap.size w w'/\∃S':Nat->Prop,(∀b,S b->S' b)/\(∀b,S' b->(S b\/w.heap.size<=b)/\b<w'.heap.size)/\mJ Tryz.prog S' w' w.heap.size v (.ow e es):=by
 refine h.mono fun ex w' ⟨v,he,ho,hb⟩=>⟨v,he,hb,S,fun _ h=>h,fun b h=>⟨.inl h,vU (hS b h) hb.size⟩,⟨vals,by rw[hc];exact ho,fun x hx=>by rw[hc];exact hk x hx,h1,hr S w'⟩,fun g hg hs=> ?_⟩;have h1:=hS g hs;rcases ho.2 with⟨rfl,_⟩|⟨g',cap,cur,rfl,jR,_⟩;simp[dR] at hg;simp[dR] at hg;omega
def cO6 {l:List aW}(hj:jok l=true)(hk:∀e∈l,∀x∈e.legs,Dv x=true):PF Tryz.prog 14 [.l (ents l)] (.ow 61 (aB bG.v (Bg l))):=by
 intro S w vs hS _ hr;obtain⟨v,rfl,hv⟩:=VZ hr;obtain⟨ad,c,es,rfl,he,hE,h1,h2⟩:=journal hS hv hj;have h3:∀e∈es,∀x∈e.legs,NZ (x.1,x.2.2):=fun e hx x kV=>by have:=hk (AP e) (by rw[<-he];exact jL.2 ⟨e,hx,rfl⟩) (IR x) (by simp only[AP];exact jL.2 ⟨x,kV,rfl⟩);simp only[Dv,IR,fA] at this;exact⟨this.1,by have h:=Xc this.2;simpa using h⟩
 have hc44:Tryz.prog.cellsOf 61=3:=by kernel_rfl
 have qP:=cY8 es;have hsl:=aZ4 h2;have aA5:(((rX (tW es)).map m8).map Gq).Nodup:=by
  rw[DX];have h4:((rX (tW es)).map (·.1)).Nodup:=List.Nodup.sublist (List.Sublist.map _ (List.filter_sublist ..)) qP
  have h5:(rX (tW es)).map (Gq ∘ m8)=((rX (tW es)).map (·.1)).map fun k=>(k.1,k.2.data.toList):=by rw[DX];rfl
  rw[h5];exact List.Pairwise.map _ (fun x y hxy e=>hxy (Prod.ext (Prod.mk.inj e).1 (aO3 (Prod.mk.inj e).2))) h4
 have qR:∀T:iM,T.Perm (tW es)->RG (rX T) ((IV ((rX (tW es)).map m8)).map KP):=fun T hT=>dC4 aA5 (hT.filter _) (by
  have e1:(rX T).length<=T.length:=LG _ _;have e2:=hT.length_eq;omega)
 have htr:IV ((rX (tW es)).map m8)=Bg l:=by unfold Bg;rw[dL9,cY6,he]
 have h:=callsIn_wide.1 (cO0 3 (by omega) ad c es w h1 h2 h3 hE qR);rw[htr] at h;refine bG9 hS hc44 (fun x hx=> ?_) (fun x hx=> ?_) (vals:=((Bg l).map KP).flatMap Ca) (fun S w'=> ?_) ?_;obtain⟨y,_,rfl⟩:=jL.1 hx;rfl;obtain⟨y,hy,hx⟩:=sM.1 hx;obtain⟨z,_,rfl⟩:=jL.1 hy;simp[V.cells] at hx;rcases hx with rfl|rfl|rfl<;>rfl;generalize Bg l=r;induction r with|nil=>exact aX.nil|cons x r ih=>rw[fF,D5,BI,tC];refine aX.append (aX.cons (.i _ _) (aX.cons (.i _ _) (aX.cons ?_ aX.nil))) ih;have:aP S w' (.string ⟨x.currency.toArray⟩) (.s (ByteArray.mk x.currency.toArray).data.toList):= .s _;simp only at this;exact this
 rw[uP] at h;simpa[aB] using h
end Go.Proofs.YtdlpbedneamebaaGreatDoor
