/-
A part of the proof of the last text.
-/
import Derived.Test.YtdlpbedneamebaaGreatDoorTO
set_option linter.all false
namespace Go.Proofs.YtdlpbedneamebaaGreatDoor
open Go.RowKit Go.Shelf
attribute [local go_sem] Oper.semAt_some
def Kp.setB {D:Nat}{B:Nat->Prop}{W X:World}(h:Kp D B W X){b:Nat}(hb:b<D)(hB:B b)(v:Value):Kp D B W (X.setCell ⟨b,0,none⟩ v):=
 h.grown (grownBy_setCell' X b v) (fun r e=> .inr (by cases e;rintro(⟨_,h⟩|⟨h,_⟩);exact h hB;omega))
def bU8 (W:World)(e:Ev):(W.alloc (.cells #[.int .i64 e.i0,.int .i64 e.i1,.int .i64 e.i2,.int .i64 e.i3,.int .i64 e.i4,.int .i64 e.i5,.string e.s6,.string e.s7,.slice e.la e.legs.length e.lc,.int .u64 e.u9] 59)).cell? ⟨W.heap.size,1,none⟩=some (.int .i64 e.i1)/\
  (W.alloc (.cells #[.int .i64 e.i0,.int .i64 e.i1,.int .i64 e.i2,.int .i64 e.i3,.int .i64 e.i4,.int .i64 e.i5,.string e.s6,.string e.s7,.slice e.la e.legs.length e.lc,.int .u64 e.u9] 59)).cell? ⟨W.heap.size,2,none⟩=some (.int .i64 e.i2):=by
 have pV:=World.alloc_heap_new W (.cells #[.int .i64 e.i0,.int .i64 e.i1,.int .i64 e.i2,.int .i64 e.i3,.int .i64 e.i4,.int .i64 e.i5,.string e.s6,.string e.s7,.slice e.la e.legs.length e.lc,.int .u64 e.u9] 59);refine⟨?_,?_⟩<;>(unfold World.cell?;rw[pV];rfl)
def bY0 {B:Nat}(Bx:Nat)(u1 u2:Value)(p:Prop):OwnFrom B (fun(_:Unit) W=>W.cell? ⟨Bx,1,none⟩=some u1/\W.cell? ⟨Bx,2,none⟩=some u2/\p):=
 Own.from (fun _ _ _ _ hs hg hr=>⟨cell_kept hs.1 hg hr,cell_kept hs.2.1 hg hr,hs.2.2⟩) _
def OwnFrom.ex {β γ:Type}{B:Nat}{I:γ->β->World->Prop}(h:∀c,OwnFrom B (I c)):OwnFrom B (fun s W=>∃c,I c s W):=fun s W W' row ⟨c,hc⟩ hg hr=>⟨c,h c s W W' row hc hg hr⟩
def Qf (fr to:Int)(s:Int×Int)(x:Ev×Int):Int×Int:=if x.1.i1<fr\/to<x.1.i1 then s else if 0<x.2 then(wrap64 (s.1+x.2),s.2) else(s.1,wrap64 (s.2 - x.2))
def AA (fr to:Int)(pre:List (Ev×Int)):Int×Int:=pre.foldl (Qf fr to) (0,0)
def Xr (fr to:Int)(pre:List (Ev×Int))(x:Ev×Int):AA fr to (pre++[x])=Qf fr to (AA fr to pre) x:=by simp[AA]
set_option maxRecDepth 100000 in
set_option maxHeartbeats 2000000 in
def cN3 (F:Fence)(n:Nat)(oT:F.fn 192)(mT:F.fn 29)(h36:F.fn 68)(lD:F.round=none)(hn:3<=n)(a:Option Addr)(cap:Nat)(acc fr to:Int)(es:List Ev)(w:World)(bT:es.length<=4096)(Aw:∀e∈es,e.legs.length<=4096)
  (hE:w7 (fun b=>b<w.heap.size) w a es):
  CallsIn F n Tryz.prog 192 #[.slice a es.length cap,.int .i64 acc,.int .i64 fr,.int .i64 to] w fun e W'=>e= .returned (.tuple #[.int .i64 (AA fr to (nB acc es)).1,.int .i64 (AA fr to (nB acc es)).2])/\Below w.heap.size w W':=by
 have h1:1<=n:=by omega
 refine callsIn_of_wp_marks Tryz.func192 rfl oT ?_ lD;simp only[Tryz.ntmps192,List.size_toArray,List.length_cons,List.length_nil,Nat.reduceAdd,Nat.reduceSub,Array.replicate_succ,Array.replicate_zero,List.push_toArray,List.append_toArray,List.nil_append,List.cons_append]
 gi_wp2_with (gi_at_call 29;refine(ZZ F (n - 1) mT lD _ _ _ _ _).mono ?_;rintro e w' ⟨rfl,rfl⟩)
 have b0:=Boxed.new w 3 (.int .i64 fr);have b1:=Boxed.new (w.alloc (.cells #[.int .i64 fr] 3)) 3 (.int .i64 to);have b2:=Boxed.new ((w.alloc (.cells #[.int .i64 fr] 3)).alloc (.cells #[.int .i64 to] 3)) 3 (.int .i64 0);have b3:=Boxed.new (((w.alloc (.cells #[.int .i64 fr] 3)).alloc (.cells #[.int .i64 to] 3)).alloc (.cells #[.int .i64 0] 3)) 3 (.int .i64 0);have b4:=Boxed.new ((((w.alloc (.cells #[.int .i64 fr] 3)).alloc (.cells #[.int .i64 to] 3)).alloc (.cells #[.int .i64 0] 3)).alloc (.cells #[.int .i64 0] 3)) 29 (.slice a es.length cap);have b5:=Boxed.new (((((w.alloc (.cells #[.int .i64 fr] 3)).alloc (.cells #[.int .i64 to] 3)).alloc (.cells #[.int .i64 0] 3)).alloc (.cells #[.int .i64 0] 3)).alloc (.cells #[.slice a es.length cap] 29)) 3 (.int .i64 acc);obtain⟨W0,Cp⟩:∃W0,((((((w.alloc (.cells #[.int .i64 fr] 3)).alloc (.cells #[.int .i64 to] 3)).alloc (.cells #[.int .i64 0] 3)).alloc (.cells #[.int .i64 0] 3)).alloc (.cells #[.slice a es.length cap] 29)).alloc (.cells #[.int .i64 acc] 3))=W0:=⟨_,rfl⟩;have dA:W0.heap.size=w.heap.size+6:=by rw[<-Cp];simp
 have hB0:Below w.heap.size w W0:=by rw[<-Cp];exact((((((Below.refl _ w).alloc (by simp) _).alloc (by simp) _).alloc (by simp;omega) _).alloc (by simp;omega) _).alloc (by simp;omega) _).alloc (by simp;omega) _
 have c0:=(((((b0).alloc (.cells #[.int .i64 to] 3)).alloc (.cells #[.int .i64 0] 3)).alloc (.cells #[.int .i64 0] 3)).alloc (.cells #[.slice a es.length cap] 29)).alloc (.cells #[.int .i64 acc] 3);have c1:=((((b1).alloc (.cells #[.int .i64 0] 3)).alloc (.cells #[.int .i64 0] 3)).alloc (.cells #[.slice a es.length cap] 29)).alloc (.cells #[.int .i64 acc] 3);have c2:=(((b2).alloc (.cells #[.int .i64 0] 3)).alloc (.cells #[.slice a es.length cap] 29)).alloc (.cells #[.int .i64 acc] 3);have c3:=((b3).alloc (.cells #[.slice a es.length cap] 29)).alloc (.cells #[.int .i64 acc] 3);have c4:=(b4).alloc (.cells #[.int .i64 acc] 3);rw[Cp] at b5 c0 c1 c2 c3 c4;simp only[World.size_alloc,Nat.add_assoc,Nat.reduceAdd] at b1 b2 b3 b4 b5 c1 c2 c3 c4;have lO:w7 (fun b=>b<w.heap.size) W0 a es:=hE.bel (fun _ hb=>hb) hB0;simp only[Nat.add_assoc,Nat.reduceAdd,Cp];clear Cp hE;obtain⟨N,hN⟩:∃N,w.heap.size=N:=⟨_,rfl⟩;simp only[hN] at b0 b1 b2 b3 b4 b5 c0 c1 c2 c3 c4 dA hB0 lO⊢;refine wpIn_rangeFunc_ownH lD h1 (gf:=68) (lb:= #[.pointer (some ⟨N+4,0,none⟩),.pointer (some ⟨N+5,0,none⟩)]) rfl h36 (enters_of Tryz.func68 (by kernel_rfl) rfl)
  (ZY F (n - 1) h36 lD (by omega) (N+4) (N+5) (N+6) (fun b=>b=N+2\/b=N+3) a cap acc es W0 dA.symm bT Aw c4.cell (by omega) b5.cell (by omega) (lO.mono (fun b hb=>⟨by omega,by omega⟩)))
  Kp.trans (fun W l o o' hl h hc _=>Kp.b (by omega) W l o o' hl h hc) (Below.refl _ _) (fun _=>rfl)
  (fun pre W=>Boxed W N 3 (.int .i64 fr)/\Boxed W (N+1) 3 (.int .i64 to)/\Boxed W (N+2) 3 (.int .i64 (AA fr to pre).1)/\Boxed W (N+3) 3 (.int .i64 (AA fr to pre).2)/\Below N w W)
  (fun _ _ _=>False)
  ((Own.from (boxed_own _ _ _) _).and ((Own.from (boxed_own _ _ _) _).and ((Own.from (boxed_own _ _ _) _).and ((Own.from (boxed_own _ _ _) _).and (ownFrom_below (by omega) (by omega))))))
  (fun _ _ _ _ _ hs _ _=>hs)
  ⟨c0,c1,c2,c3,hB0⟩
  (fun x a' W=>∃Bx,W.cell? ⟨Bx,1,none⟩=some (.int .i64 x.1.i1)/\W.cell? ⟨Bx,2,none⟩=some (.int .i64 x.1.i2)/\a'={tmps:= #[.slice a es.length cap,.int .i64 acc,.int .i64 fr,.int .i64 to,undef,undef,.pointer (some ⟨N,0,none⟩),.pointer (some ⟨N+1,0,none⟩),.int .i64 0,.int .i64 0,.pointer (some ⟨N+2,0,none⟩),.pointer (some ⟨N+3,0,none⟩),.pointer (some ⟨Bx,0,none⟩),.int .i64 x.2,.slice a es.length cap,.int .i64 acc,.func (.func 68) #[] #[.pointer (some ⟨N+4,0,none⟩),.pointer (some ⟨N+5,0,none⟩)],x.1.agg,.int .i64 x.2,undef,undef,undef,undef,undef,undef,undef,undef,undef,undef,undef,undef,undef,undef,undef,undef,undef,undef,undef,undef,undef,undef],defers:=[]})
  (fun x a'=>OwnFrom.ex fun Bx=>bY0 Bx _ _ _) ?assign ?body ?done ?stop
 case assign=>
  rintro l pre x W K ⟨i0,i1,i2,i3,i4⟩ hK
  gi_wp2
  have hv:=bU8 W x.1;exact hK _ _ ((KeepsOthers.alloc _ _).from _) ((Kp.refl ..).alloc _) ⟨i0.alloc _,i1.alloc _,i2.alloc _,i3.alloc _,i4.alloc (by have:=i4.size;omega) _⟩ ⟨W.heap.size,hv.1,hv.2,rfl⟩
 case body=>
  rintro l pre x a' W hl hr ⟨i0,i1,i2,i3,i4⟩ ⟨Bx,r8,zD,rfl⟩ eF;have Bz:=i0.cell;have oE:=i1.cell;have eO:=i2.cell;have hf2:=i2.frozen;have hc3:=i3.cell;have hf3:=i3.frozen;have ho:x.1.i1<fr\/to<x.1.i1->AA fr to (pre++[x])=AA fr to pre:=fun h=>by rw[Xr,Qf,if_pos h]
  have hd:¬(x.1.i1<fr\/to<x.1.i1)->0<x.2->AA fr to (pre++[x])=(wrap64 ((AA fr to pre).1+x.2),(AA fr to pre).2):=fun h h'=>by rw[Xr,Qf,if_neg h,if_pos h']
  have hc:¬(x.1.i1<fr\/to<x.1.i1)->¬0<x.2->AA fr to (pre++[x])=((AA fr to pre).1,wrap64 ((AA fr to pre).2 - x.2)):=fun h h'=>by rw[Xr,Qf,if_neg h,if_neg h']
  gi_wp2
  have hx:=ho (by simp_all);exact⟨KeepsFrom.refl _ _,Kp.refl ..,by dsimp only;rw[hx];exact⟨i0,i1,i2,i3,i4⟩⟩;have hx:=hd (by simp_all) (by assumption);exact⟨(KeepsOthers.setCell _ _ _).from _,Kp.setB (D:=N+6) (B:=fun b=>b=N+2\/b=N+3) (b:=N+2) (Kp.refl ..) (by omega) (.inl rfl) _,by dsimp only;rw[hx];exact⟨i0.other (by omega) _,i1.other (by omega) _,i2.set _,i3.other (by omega) _,i4.setCell (p:=⟨N+2,0,none⟩) (by show N<=N+2;omega) _⟩⟩;have hx:=hc (by simp_all) (by omega);exact⟨(KeepsOthers.setCell _ _ _).from _,Kp.setB (D:=N+6) (B:=fun b=>b=N+2\/b=N+3) (b:=N+3) (Kp.refl ..) (by omega) (.inr rfl) _,by dsimp only;rw[hx];exact⟨i0.other (by omega) _,i1.other (by omega) _,i2.other (by omega) _,i3.set _,i4.setCell (p:=⟨N+3,0,none⟩) (by show N<=N+3;omega) _⟩⟩;have hx:=ho (by omega);exact⟨KeepsFrom.refl _ _,Kp.refl ..,by dsimp only;rw[hx];exact⟨i0,i1,i2,i3,i4⟩⟩
 case done=>
  rintro D ys W hD rfl ⟨i0,i1,i2,i3,i4⟩ hK;have eO:=i2.cell;have hc3:=i3.cell
  gi_wp2
  gi_region
  all_goals gi_wp2
  all_goals
   refine⟨by simp,.inl ⟨_,_,rfl,run_takeDeferred (w:=W.drew) hK,?_⟩⟩;exact⟨_,results_tmp2 rfl _ _ _,rfl,by rw[hN];exact(i4.drew).trans (belowK_b (w:=w) (by omega) W.drew D _ _ (by omega) hK rfl rfl)⟩
 case stop=>rintro D c pre W _ _ h _;exact h.elim
end Go.Proofs.YtdlpbedneamebaaGreatDoor
