/-
Plain laws and walks: part of the proof of the last text.
-/
import Derived.RangeFuncNested
import Derived.RangeFuncBound
import Derived.Shelf.RegionOpen
import Derived.WalkKit
import Derived.OwnWalkIn
import Derived.LoopNIn
import Derived.LoopIn
import Derived.Test.YtdlpbedneamebaaGreatDoorProg
set_option linter.all false
namespace Go.Proofs.YtdlpbedneamebaaGreatDoor
open Go.RowKit Go.Shelf
attribute [local go_sem] Oper.semAt_some
set_option maxHeartbeats 1000000 in
def ZZ (F:Fence)(n:Nat)(h:F.fn 29)(lD:F.round=none)(a:Option Addr)(len cap:Nat)(acc:Int)(w:World):
  CallsIn F n Tryz.prog 29 #[.slice a len cap,.int .i64 acc] w fun e w'=>e= .returned (.func (.func 68) #[] #[.pointer (some ⟨w.heap.size,0,none⟩),.pointer (some ⟨w.heap.size+1,0,none⟩)])/\w'=(w.alloc (.cells #[.slice a len cap] 29)).alloc (.cells #[.int .i64 acc] 3):=by
 refine callsIn_of_wp Tryz.func29 rfl h ?_ lD;simp only[Tryz.ntmps29,List.size_toArray,List.length_cons,List.length_nil,Nat.reduceAdd,Nat.reduceSub,Array.replicate_succ,Array.replicate_zero,List.push_toArray,List.append_toArray,List.nil_append,List.cons_append]
 gi_wp2
 go_ret
 exact⟨rfl,rfl⟩
def prot (D:Nat)(B:Nat->Prop)(W:World)(b:Nat):Prop:=(b<D/\¬B b)\/(D<=b/\∃c t fr,W.heap[b]? =some (.cells c t fr)/\(t=59\/t=61))
def Kp (D:Nat)(B:Nat->Prop)(W W':World):Prop:=W.heap.size<=W'.heap.size/\∀b,b<W.heap.size->prot D B W b->W'.heap[b]? =W.heap[b]?
def Kp.refl (D:Nat)(B:Nat->Prop)(W:World):Kp D B W W:=⟨Nat.le_refl _,fun _ _ _=>rfl⟩
def Kp.prot {D:Nat}{B:Nat->Prop}{W W':World}(h:Kp D B W W'){b:Nat}(hb:b<W.heap.size)(hp:prot D B W b):prot D B W' b:=by rcases hp with hp|⟨h1,c,t,fr,h2,h3⟩;exact .inl hp;exact .inr ⟨h1,c,t,fr,(h.2 b hb (.inr ⟨h1,c,t,fr,h2,h3⟩)).trans h2,h3⟩
def Kp.trans {D:Nat}{B:Nat->Prop}{X Y Z:World}(h:Kp D B X Y)(k:Kp D B Y Z):Kp D B X Z:=
 ⟨Nat.le_trans h.1 k.1,fun b hb hp=>(k.2 b (Nat.lt_of_lt_of_le hb h.1) (h.prot hb hp)).trans (h.2 b hb hp)⟩
def Kp.cell {D:Nat}{B:Nat->Prop}{W W':World}(h:Kp D B W W'){p:Addr}(hb:p.block<W.heap.size)(hp:YtdlpbedneamebaaGreatDoor.prot D B W p.block):W'.cell? p=W.cell? p:=by simp[World.cell?,h.2 _ hb hp]
def Kp.grown {D:Nat}{B:Nat->Prop}{W X Y:World}(h:Kp D B W X){row:Option Nat}(hg:X.grownBy Y row)(hr:∀r,row=some r->W.heap.size<=r\/¬YtdlpbedneamebaaGreatDoor.prot D B W r):Kp D B W Y:=by refine⟨Nat.le_trans h.1 hg.size,fun b hb hp=>(hg.block b (Nat.lt_of_lt_of_le hb h.1) fun e=> ?_).trans (h.2 b hb hp)⟩;rcases hr b e.symm with h1|h1;omega;exact h1 hp
def Kp.alloc {D:Nat}{B:Nat->Prop}{W X:World}(h:Kp D B W X)(o:Obj):Kp D B W (X.alloc o):=h.grown (World.grownBy_alloc X o none) (by simp)
def Kp.b {D:Nat}{B:Nat->Prop}{w:World}(hD:D<=w.heap.size)(W:World)(l:Nat)(o o':Obj)(hl:w.heap.size<=l)(h:W.heap[l]? =some o)(hc:o.isCells=false):Kp D B W (W.putObj l o'):=by refine(Kp.refl D B W).grown (grownBy_putObj' W l o') fun r e=> .inr ?_;cases e;rintro(⟨h1,_⟩|⟨_,c,t,fr,h2,_⟩);omega;rw[h2] at h;cases h;cases hc
def Fv {W:World}{a:Addr}{v:Value}(o:Obj)(h:W.cell? a=some v):(W.alloc o).cell? a=some v:=cell_kept h (World.grownBy_alloc W o none) (fun r e=>by cases e)
structure Ev where
 (i0 i1 i2 i3 i4 i5:Int)
 (s6 s7:ByteArray)
 la:Option Addr
 lc:Nat
 legs:List (Int×Int×ByteArray)
 u9:Int
abbrev Ev.agg (e:Ev):Value:= .agg #[.int .i64 e.i0,.int .i64 e.i1,.int .i64 e.i2,.int .i64 e.i3,.int .i64 e.i4,.int .i64 e.i5,.string e.s6,.string e.s7,.slice e.la e.legs.length e.lc,.int .u64 e.u9]
abbrev Ev.encs (m:Ev×Int):Array Value:= #[m.1.agg,.int .i64 m.2]
def Kq (W:World)(b o:Nat)(x:Int×Int×ByteArray):Prop:=W.cell? ⟨b,o,none⟩=some (.int .i64 x.1)/\W.cell? ⟨b,o+1,none⟩=some (.int .i64 x.2.1)/\W.cell? ⟨b,o+2,none⟩=some (.string x.2.2)
def JF (ok:Nat->Prop)(W:World)(la:Option Addr)(legs:List (Int×Int×ByteArray)):Prop:=legs=[]\/∃b o,la=some ⟨b,o,none⟩/\ok b/\∀k x,legs[k]? =some x->Kq W b (o+k*3) x
def Ku (W:World)(b o:Nat)(e:Ev):Prop:=
 W.cell? ⟨b,o,none⟩=some (.int .i64 e.i0)/\W.cell? ⟨b,o+1,none⟩=some (.int .i64 e.i1)/\W.cell? ⟨b,o+2,none⟩=some (.int .i64 e.i2)/\W.cell? ⟨b,o+3,none⟩=some (.int .i64 e.i3)/\W.cell? ⟨b,o+4,none⟩=some (.int .i64 e.i4)/\
 W.cell? ⟨b,o+5,none⟩=some (.int .i64 e.i5)/\W.cell? ⟨b,o+6,none⟩=some (.string e.s6)/\W.cell? ⟨b,o+7,none⟩=some (.string e.s7)/\W.cell? ⟨b,o+8,none⟩=some (.slice e.la e.legs.length e.lc)/\W.cell? ⟨b,o+9,none⟩=some (.int .u64 e.u9)
def w7 (ok:Nat->Prop)(W:World)(a:Option Addr)(es:List Ev):Prop:=es=[]\/∃b o,a=some ⟨b,o,none⟩/\ok b/\∀k e,es[k]? =some e->Ku W b (o+k*10) e/\JF ok W e.la e.legs
def Kq.kp {D:Nat}{B:Nat->Prop}{W W':World}(h:Kp D B W W')(hD:D<=W.heap.size){b o:Nat}(hb:b<D/\¬B b){x:Int×Int×ByteArray}(hl:Kq W b o x):Kq W' b o x:=
 ⟨(h.cell (by have:=hb.1;show b<_;omega) (.inl hb)).trans hl.1,(h.cell (by have:=hb.1;show b<_;omega) (.inl hb)).trans hl.2.1,(h.cell (by have:=hb.1;show b<_;omega) (.inl hb)).trans hl.2.2⟩
def JF.kp {D:Nat}{B:Nat->Prop}{W W':World}(h:Kp D B W W')(hD:D<=W.heap.size){la:Option Addr}{legs:List (Int×Int×ByteArray)}(hl:JF (fun b=>b<D/\¬B b) W la legs):JF (fun b=>b<D/\¬B b) W' la legs:=by rcases hl with hl|⟨b,o,h1,h2,h3⟩;exact .inl hl;exact .inr ⟨b,o,h1,h2,fun k x hx=>(h3 k x hx).kp h hD h2⟩
def Ku.kp {D:Nat}{B:Nat->Prop}{W W':World}(h:Kp D B W W'){b o:Nat}(hb:b<W.heap.size)(hp:prot D B W b){e:Ev}(hl:Ku W b o e):Ku W' b o e:=by obtain⟨h0,h1,h2,h3,h4,h5,h6,h7,h8,h9⟩:=hl;exact⟨(h.cell hb hp).trans h0,(h.cell hb hp).trans h1,(h.cell hb hp).trans h2,(h.cell hb hp).trans h3,(h.cell hb hp).trans h4,(h.cell hb hp).trans h5,(h.cell hb hp).trans h6,(h.cell hb hp).trans h7,(h.cell hb hp).trans h8,(h.cell hb hp).trans h9⟩
def w7.kp {D:Nat}{B:Nat->Prop}{W W':World}(h:Kp D B W W')(hD:D<=W.heap.size){a:Option Addr}{es:List Ev}(hl:w7 (fun b=>b<D/\¬B b) W a es):w7 (fun b=>b<D/\¬B b) W' a es:=by rcases hl with hl|⟨b,o,h1,h2,h3⟩;exact .inl hl;exact .inr ⟨b,o,h1,h2,fun k x hx=>⟨(h3 k x hx).1.kp h (by omega) (.inl h2),(h3 k x hx).2.kp h hD⟩⟩
def Cx (acc:Int)(e:Ev)(l:List (Int×Int×ByteArray)):List (Ev×Int):=(l.filter (·.1=acc)).map fun x=>(e,x.2.1)
def nB (acc:Int)(es:List Ev):List (Ev×Int):=es.flatMap fun e=>Cx acc e e.legs
def bU6 {acc:Int}{e:Ev}{l:List (Int×Int×ByteArray)}{m:Nat}{x:Int×Int×ByteArray}(h:l[m]? =some x):Cx acc e (l.take (m+1))=Cx acc e (l.take m)++(if x.1=acc then[(e,x.2.1)] else[]):=by unfold Cx;rw[List.take_add_one,h,List.filter_append,List.map_append];by_cases hx:x.1=acc<;>simp[hx]
def bJ6 {acc:Int}{es:List Ev}{k:Nat}{e:Ev}(h:es[k]? =some e):nB acc (es.take (k+1))=nB acc (es.take k)++Cx acc e e.legs:=by unfold nB;rw[List.take_add_one,h,List.flatMap_append];simp
def dS3 {acc:Int}{es:List Ev}{k m:Nat}{e:Ev}{x:Int×Int×ByteArray}(h:es[k]? =some e)(hx:e.legs[m]? =some x)(ha:x.1=acc):(nB acc (es.take k)++Cx acc e (e.legs.take m)).length<(nB acc es).length:=by
 have h1:nB acc es=nB acc (es.take (k+1))++nB acc (es.drop (k+1)):=by unfold nB;rw[<-List.flatMap_append,List.take_append_drop]
 have h2:Cx acc e e.legs=Cx acc e (e.legs.take (m+1))++Cx acc e (e.legs.drop (m+1)):=by unfold Cx;rw[<-List.map_append,<-List.filter_append,List.take_append_drop]
 rw[h1,bJ6 h,h2,bU6 hx,if_pos ha];simp only[List.length_append,List.length_cons,List.length_nil];omega
set_option maxRecDepth 100000 in
set_option maxHeartbeats 4000000 in
def eE1 (F:Fence)(n:Nat)(h:F.fn 68)(lD:F.round=none)(hn:1<=n)(l Bj Ba D:Nat)(B:Nat->Prop)(a:Option Addr)(cap:Nat)(acc:Int)(es:List Ev)(J Jx:List (Ev×Int)->World->Prop)
  (W:World)(hD:D<=W.heap.size)(hJa:AbidesFrom W.heap.size J)
  (hY:∀pre x W1,J pre W1->pre.length<(nB acc es).length->YieldAt F (n - 1) Tryz.prog l (Ev.encs x) W1 fun e W'=>
   (e= .returned (.bool true)/\J (pre++[x]) W'/\Kp D B W1 W')\/(e= .returned (.bool false)/\Jx (pre++[x]) W'))
  (hBj:W.cell? ⟨Bj,0,none⟩=some (.slice a es.length cap))(hBa:W.cell? ⟨Ba,0,none⟩=some (.int .i64 acc))(MU:Ba<D/\¬B Ba)
  (bT:es.length<=4096)(Aw:∀e∈es,e.legs.length<=4096)(hE:w7 (fun b=>b<D/\¬B b) W a es)(h0:J [] W):
  CallsIn F n Tryz.prog 68 #[.func (.yield l) #[] #[],.pointer (some ⟨Bj,0,none⟩),.pointer (some ⟨Ba,0,none⟩)] W fun e W'=>(∃v,e= .returned v)/\
   ((∃ys,ys=nB acc es/\J ys W')\/(∃pre,True/\Jx pre W')):=by
 refine callsIn_of_wp Tryz.func68 rfl h ?_ lD;simp only[Tryz.ntmps68,List.size_toArray,List.length_cons,List.length_nil,Nat.reduceAdd,Nat.reduceSub,Array.replicate_succ,Array.replicate_zero,List.push_toArray,List.append_toArray,List.nil_append,List.cons_append]
 gi_wp2
 gi_loopw [10] (fun i wr=>∃k:Nat,k<=es.length/\i= .int .i64 k/\J (nB acc (es.take k)) wr/\Kp D B W wr)
  (fun i _=>es.length - (intOf i).toNat)
 case atStart=>exact⟨0,Nat.zero_le _,rfl,h0,Kp.refl ..⟩
 case round=>
  obtain⟨k,hk,rfl,hJs,hK⟩:=hrel;obtain⟨w1,rfl⟩:∃w1,w1=wr:=⟨wr,rfl⟩;by_cases bE:k<es.length
  ·obtain⟨e,he⟩:∃e,es[k]? =some e:=⟨_,List.getElem?_eq_getElem bE⟩;have hBa':=(hK.cell (p:=⟨Ba,0,none⟩) (by have:=MU.1;show Ba<_;omega) (.inl MU)).trans hBa;obtain rfl|⟨b,o,rfl,hb,hc⟩:=hE.kp hK hD;cases bE;obtain⟨⟨h0,h1,h2,h3,h4,h5,h6,h7,h8,h9⟩,hL⟩:=hc k e he;have hwr:=hK.1;have wP:=Aw e (List.mem_of_getElem? he)
   gi_wp2
   gi_loopw [17] (fun i wr2=>∃m:Nat,m<=e.legs.length/\i= .int .i64 m/\J (nB acc (es.take k)++Cx acc e (e.legs.take m)) wr2/\Kp D B w1 wr2/\w1.heap.size<wr2.heap.size/\prot D B wr2 w1.heap.size/\Ku wr2 w1.heap.size 0 e)
    (fun i _=>e.legs.length - (intOf i).toNat)
   case atStart=>refine⟨0,Nat.zero_le _,rfl,?_,(Kp.refl ..).alloc _,by simp,.inr ⟨by omega,_,_,_,World.alloc_heap_new _ _,.inl rfl⟩,?_⟩;simp only[List.take_zero,Cx,List.filter_nil,List.map_nil,List.append_nil];exact hJa _ _ _ none hJs (World.grownBy_alloc _ _ _) (by simp);have pV:=World.alloc_heap_new w1 (.cells #[.int .i64 e.i0,.int .i64 e.i1,.int .i64 e.i2,.int .i64 e.i3,.int .i64 e.i4,.int .i64 e.i5,.string e.s6,.string e.s7,.slice e.la e.legs.length e.lc,.int .u64 e.u9] 59);refine⟨?_,?_,?_,?_,?_,?_,?_,?_,?_,?_⟩<;>(unfold World.cell?;rw[pV];rfl)
   case round=>
    obtain⟨m,hm,rfl,hJ2,hK2,cJ,hp2,eO⟩:=hrel;by_cases Gw:m<e.legs.length
    ·obtain⟨x,hx⟩:∃x,e.legs[m]? =some x:=⟨_,List.getElem?_eq_getElem Gw⟩;obtain⟨xa,xm,xs⟩:=x;have hL2:=hL.kp hK2 (by omega);rcases hL2 with hL2|⟨b2,o2,hla,EI,cK⟩;rw[hL2] at Gw;cases Gw;obtain⟨l0,l1,l2⟩:=cK m _ hx;dsimp only at l0 l1 l2;have hBa2:=((hK.trans hK2).cell (p:=⟨Ba,0,none⟩) (by have:=MU.1;show Ba<_;omega) (.inl MU)).trans hBa;have AH:=dS3 (acc:=acc) he hx;obtain⟨g0,g1,g2,g3,g4,g5,g6,g7,g8,g9⟩:=eO;have iQ:=bU6 (acc:=acc) (e:=e) hx;obtain⟨i0,i1,i2,i3,i4,i5,s6,s7,la,lc,legs,u9⟩:=e;dsimp only at*;subst hla;have hb3:=Fv (.cells #[.int .i64 xa,.int .i64 xm,.string xs] 61) hBa2;have q0:=Fv (.cells #[.int .i64 xa,.int .i64 xm,.string xs] 61) g0;have q1:=Fv (.cells #[.int .i64 xa,.int .i64 xm,.string xs] 61) g1;have q2:=Fv (.cells #[.int .i64 xa,.int .i64 xm,.string xs] 61) g2;have q3:=Fv (.cells #[.int .i64 xa,.int .i64 xm,.string xs] 61) g3;have q4:=Fv (.cells #[.int .i64 xa,.int .i64 xm,.string xs] 61) g4;have q5:=Fv (.cells #[.int .i64 xa,.int .i64 xm,.string xs] 61) g5;have q6:=Fv (.cells #[.int .i64 xa,.int .i64 xm,.string xs] 61) g6;have q7:=Fv (.cells #[.int .i64 xa,.int .i64 xm,.string xs] 61) g7;have q8:=Fv (.cells #[.int .i64 xa,.int .i64 xm,.string xs] 61) g8;have q9:=Fv (.cells #[.int .i64 xa,.int .i64 xm,.string xs] 61) g9;simp only[Nat.zero_add] at q1 q2 q3 q4 q5 q6 q7 q8 q9;by_cases hxa:xa=acc
     ·subst hxa;obtain⟨fn,tmps,assign,body,hy,hR⟩:=hY _ (⟨i0,i1,i2,i3,i4,i5,s6,s7,some ⟨b2,o2,none⟩,lc,legs,u9⟩,xm) (wr.alloc (.cells #[.int .i64 xa,.int .i64 xm,.string xs] 61)) (hJa _ _ _ none hJ2 (World.grownBy_alloc _ _ _) (by simp)) (AH rfl);dsimp only[Ev.encs,Ev.agg] at hy
      gi_wp2
      refine hR.mono ?_;have hkA:Kp D B wr (wr.alloc (.cells #[.int .i64 xa,.int .i64 xm,.string xs] 61)):=(Kp.refl ..).alloc _;rintro e W3 (⟨rfl,hJ3,hk3⟩|⟨rfl,hJx3⟩)
      ·gi_wp2
       go_roundw
       case rel=>refine⟨m+1,by omega,by simp,by rw[iQ,if_pos trivial,<-List.append_assoc];exact hJ3,hK2.trans (hkA.trans hk3),by have:=(hkA.trans hk3).1;omega,(hkA.trans hk3).prot cJ hp2,?_⟩;exact Ku.kp (hkA.trans hk3) cJ hp2 ⟨g0,g1,g2,g3,g4,g5,g6,g7,g8,g9⟩
       case measure=>simp[intOf];omega
      ·gi_wp2
       refine bodyPost_ret (results_none rfl _ _ _) rfl ?_;exact⟨⟨_,rfl⟩,.inr ⟨_,trivial,hJx3⟩⟩
     ·gi_wp2
      refine⟨fun _ h=>(by cases h),?_⟩
      gi_wp2
      have hkA:Kp D B wr (wr.alloc (.cells #[.int .i64 xa,.int .i64 xm,.string xs] 61)):=(Kp.refl ..).alloc _
      go_roundw
      case rel=>refine⟨m+1,by omega,by simp,by rw[iQ,if_neg hxa,List.append_nil];exact hJa _ _ _ none hJ2 (World.grownBy_alloc _ _ _) (by simp),hK2.trans hkA,by have:=hkA.1;omega,hkA.prot cJ hp2,?_⟩;exact Ku.kp hkA cJ hp2 ⟨g0,g1,g2,g3,g4,g5,g6,g7,g8,g9⟩
      case measure=>simp[intOf];omega
    ·obtain rfl:m=e.legs.length:=by omega
     gi_wp2
     rw[List.take_length] at hJ2;exact⟨⟨k+1,by omega,by simp,by rw[bJ6 he];exact hJ2,hK.trans hK2⟩,by simp[intOf];omega⟩
  ·obtain rfl:k=es.length:=by omega
   gi_wp2
   go_end0
   rw[List.take_length] at hJs;exact⟨⟨_,rfl⟩,.inl ⟨_,rfl,hJs⟩⟩
end Go.Proofs.YtdlpbedneamebaaGreatDoor
namespace Go.Proofs.YtdlpbedneamebaaGreatDoor
open Go.RowKit Go.Shelf
attribute [local go_sem] Oper.semAt_some
def JF.mono {ok ok':Nat->Prop}(hk:∀b,ok b->ok' b){W:World}{la:Option Addr}{legs:List (Int×Int×ByteArray)}(hl:JF ok W la legs):JF ok' W la legs:=by rcases hl with hl|⟨b,o,h1,h2,h3⟩;exact .inl hl;exact .inr ⟨b,o,h1,hk _ h2,h3⟩
def w7.mono {ok ok':Nat->Prop}(hk:∀b,ok b->ok' b){W:World}{a:Option Addr}{es:List Ev}(hl:w7 ok W a es):w7 ok' W a es:=by rcases hl with hl|⟨b,o,h1,h2,h3⟩;exact .inl hl;exact .inr ⟨b,o,h1,hk _ h2,fun k e he=>⟨(h3 k e he).1,(h3 k e he).2.mono hk⟩⟩
def Kq.bel {n₀:Nat}{W W':World}(h:Below n₀ W W'){b o:Nat}(hb:b<n₀){x:Int×Int×ByteArray}(hl:Kq W b o x):Kq W' b o x:=⟨(h.cell hb).trans hl.1,(h.cell hb).trans hl.2.1,(h.cell hb).trans hl.2.2⟩
def w7.bel {n₀:Nat}{ok:Nat->Prop}(hk:∀b,ok b->b<n₀){W W':World}(h:Below n₀ W W'){a:Option Addr}{es:List Ev}(hl:w7 ok W a es):w7 ok W' a es:=by rcases hl with hl|⟨b,o,h1,h2,h3⟩;exact .inl hl;refine .inr ⟨b,o,h1,h2,fun k e he=>⟨?_,?_⟩⟩;obtain⟨g0,g1,g2,g3,g4,g5,g6,g7,g8,g9⟩:=(h3 k e he).1;exact⟨(h.cell (hk _ h2)).trans g0,(h.cell (hk _ h2)).trans g1,(h.cell (hk _ h2)).trans g2,(h.cell (hk _ h2)).trans g3,(h.cell (hk _ h2)).trans g4,(h.cell (hk _ h2)).trans g5,(h.cell (hk _ h2)).trans g6,(h.cell (hk _ h2)).trans g7,(h.cell (hk _ h2)).trans g8,(h.cell (hk _ h2)).trans g9⟩;rcases(h3 k e he).2 with hl|⟨b',o',jI,jT,EL⟩;exact .inl hl;exact .inr ⟨b',o',jI,jT,fun m x hx=>(EL m x hx).bel h (hk _ jT)⟩
def ZY (F:Fence)(n:Nat)(h:F.fn 68)(lD:F.round=none)(hn:1<=n)(Bj Ba D:Nat)(B:Nat->Prop)(a:Option Addr)(cap:Nat)(acc:Int)(es:List Ev)(w:World)(hD:D=w.heap.size)(bT:es.length<=4096)(Aw:∀e∈es,e.legs.length<=4096)
  (hBj:w.cell? ⟨Bj,0,none⟩=some (.slice a es.length cap))(hBjD:Bj<D)(hBa:w.cell? ⟨Ba,0,none⟩=some (.int .i64 acc))(MU:Ba<D/\¬B Ba)(hE:w7 (fun b=>b<D/\¬B b) w a es):
  SeqStopsK F n Tryz.prog 68 #[.pointer (some ⟨Bj,0,none⟩),.pointer (some ⟨Ba,0,none⟩)] Ev.encs (Kp D B) (fun ys=>ys=nB acc es) (fun _=>True) (nB acc es).length w:=fun l J Jx W hW hJ _ hY h0=>by
 subst hD;exact eE1 F n h lD hn l Bj Ba _ B a cap acc es J Jx W hW.size hJ hY ((hW.cell (p:=⟨Bj,0,none⟩) hBjD).trans hBj) ((hW.cell (p:=⟨Ba,0,none⟩) MU.1).trans hBa) MU bT Aw (hE.bel (fun b hb=>hb.1) hW) h0
def Oa (pre:List (Ev×Int)):Int:=pre.foldl (fun s x=>wrap64 (s - x.2)) 0
def dP3 (pre:List (Ev×Int))(x:Ev×Int):Oa (pre++[x])=wrap64 (Oa pre - x.2):=by simp[Oa]
set_option maxRecDepth 100000 in
set_option maxHeartbeats 2000000 in
def dP1 (F:Fence)(n:Nat)(kF:F.fn 12)(mT:F.fn 29)(h36:F.fn 68)(lD:F.round=none)(hn:3<=n)(a:Option Addr)(cap:Nat)(acc:Int)(es:List Ev)(w:World)(bT:es.length<=4096)(Aw:∀e∈es,e.legs.length<=4096)
  (hE:w7 (fun b=>b<w.heap.size) w a es):
  CallsIn F n Tryz.prog 12 #[.slice a es.length cap,.int .i64 acc] w fun e W'=>e= .returned (.int .i64 (Oa (nB acc es)))/\Below w.heap.size w W':=by
 have h1:1<=n:=by omega
 refine callsIn_of_wp_marks Tryz.func12 rfl kF ?_ lD;simp only[Tryz.ntmps12,List.size_toArray,List.length_cons,List.length_nil,Nat.reduceAdd,Nat.reduceSub,Array.replicate_succ,Array.replicate_zero,List.push_toArray,List.append_toArray,List.nil_append,List.cons_append]
 gi_wp2_with (gi_at_call 29;refine(ZZ F (n - 1) mT lD _ _ _ _ _).mono ?_;rintro e w' ⟨rfl,rfl⟩)
 have b0:=Boxed.new w 3 (.int .i64 0);have b1:=Boxed.new (w.alloc (.cells #[.int .i64 0] 3)) 29 (.slice a es.length cap);have b2:=Boxed.new ((w.alloc (.cells #[.int .i64 0] 3)).alloc (.cells #[.slice a es.length cap] 29)) 3 (.int .i64 acc);simp only[World.size_alloc] at b1 b2;have hB0:Below w.heap.size w (((w.alloc (.cells #[.int .i64 0] 3)).alloc (.cells #[.slice a es.length cap] 29)).alloc (.cells #[.int .i64 acc] 3)):=(((Below.refl _ w).alloc (Nat.le_refl _) _).alloc (by simp) _).alloc (by simp;omega) _;refine wpIn_rangeFunc_ownF lD h1 (gf:=68) (lb:= #[.pointer (some ⟨w.heap.size+1,0,none⟩),.pointer (some ⟨w.heap.size+1+1,0,none⟩)]) rfl h36 (enters_of Tryz.func68 (by kernel_rfl) rfl)
  (ZY F (n - 1) h36 lD (by omega) (w.heap.size+1) (w.heap.size+1+1) (w.heap.size+1+1+1) (fun b=>b=w.heap.size) a cap acc es _ (by simp) bT Aw (b1.alloc _).cell (by omega) b2.cell (by omega) ((hE.bel (fun _ hb=>hb) hB0).mono (fun b hb=>⟨by omega,by omega⟩)))
  Kp.trans (fun W l o o' hl h hc _=>Kp.b (by simp) W l o o' hl h hc) (Below.refl _ _) (fun _=>rfl)
  (fun pre W=>(W.cell? ⟨w.heap.size,0,none⟩=some (.int .i64 (Oa pre))/\W.frozen? ⟨w.heap.size,0,none⟩=false)/\Below w.heap.size w W)
  (fun _ _ _=>False)
  (OwnFrom.and (Own.from (fun s A B row hs hg hr=>⟨cell_kept hs.1 hg hr,(frozen_kept hs.1 hg hr).trans hs.2⟩) _) (ownFrom_below (Nat.le_refl _) (by simp;omega)))
  (fun _ _ _ _ _ hs _ _=>hs)
  ⟨⟨((b0.alloc _).alloc _).cell,((b0.alloc _).alloc _).frozen⟩,hB0⟩
  (fun x=>{tmps:= #[.slice a es.length cap,.int .i64 acc,undef,undef,.int .i64 0,.pointer (some ⟨w.heap.size,0,none⟩),undef,.int .i64 x.2,.slice a es.length cap,.int .i64 acc,.func (.func 68) #[] #[.pointer (some ⟨w.heap.size+1,0,none⟩),.pointer (some ⟨w.heap.size+1+1,0,none⟩)],x.1.agg,.int .i64 x.2,undef,undef,undef,undef],defers:=[]}) ?assign ?body ?done ?stop
 case assign=>
  intro l x W K hK
  gi_wp2
  exact hK
 case body=>
  rintro l pre x W ⟨⟨hc,hf⟩,hB⟩ _
  gi_wp2
  exact⟨KeepsOthers.setCell _ _ _,(Kp.refl _ _ W).grown (grownBy_setCell' W _ _) (fun r e=> .inr (by cases e;rintro(⟨_,h⟩|⟨h,_⟩)<;>omega)),⟨by rw[dP3];exact World.cell?_setCell_same' _ _ _ (by rw[hc];rfl),by rw[World.frozen?_setCell];exact hf⟩,hB.setCell (p:=⟨w.heap.size,0,none⟩) (Nat.le_refl _) _⟩
 case done=>
  rintro D ys W hD rfl ⟨⟨hc,_⟩,hB⟩ hK
  gi_wp2
  refine⟨by simp,.inl ⟨_,_,rfl,run_takeDeferred hK,?_⟩⟩;exact⟨_,results_tmp rfl _ _ _,rfl,hB.trans (belowK_b (w:=w) (Nat.le_refl _) W D _ _ (by simp at hD;omega) hK rfl rfl)⟩
 case stop=>rintro D c pre W _ _ h _;exact h.elim
end Go.Proofs.YtdlpbedneamebaaGreatDoor
