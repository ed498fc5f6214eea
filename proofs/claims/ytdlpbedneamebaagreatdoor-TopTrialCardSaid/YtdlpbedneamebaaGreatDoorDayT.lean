/-
A part of the proof of the last text.
-/
import Derived.Test.YtdlpbedneamebaaGreatDoorTurnT
import Derived.Test.YtdlpbedneamebaaGreatDoorTT
set_option linter.all false
namespace Go.Proofs.YtdlpbedneamebaaGreatDoor
open Go.RowKit Go.Shelf Go.VM
attribute [local go_sem] Oper.semAt_some
def eG8:(Tryz.prog.info? 3).map (fun i=>(i.zero,i.size,i.bytes))=some (some (.int .i64 0),1,8):=by kernel_rfl
set_option maxHeartbeats 1000000 in
def aR9 (F:Fence)(n:Nat)(h:F.fn 188)(lD:F.round=none)(d:Int)(w:World):
  CallsIn F n Tryz.prog 188 #[.int .i64 d] w fun e w'=>e= .returned (.bool (decide (0<=d)&&decide (d<=73048)))/\w'=w:=by
 refine callsIn_of_wp Tryz.func188 rfl h ?_ lD;simp only[Tryz.ntmps188,rL,fY,vR,Nat.reduceAdd,Nat.reduceSub,Td,Te,Tz,Tk,DY,A5]
 gi_wp2
 all_goals go_ret
 all_goals simp only[jJ,Ending.returned.injEq]
 all_goals simp[*]
 all_goals omega
def KZ (fr to:Int):Prop:=0<=fr/\fr<=73048/\0<=to/\to<=73048/\fr<=to/\to - fr<4000
instance (fr to:Int):Decidable (KZ fr to):=by unfold KZ;infer_instance
set_option maxRecDepth 100000 in
set_option maxHeartbeats 2000000 in
def eT1 (n:Nat)(hn:3<=n)(sv:Value)(acc fr to:Int)(w:World)(dP:¬KZ fr to):
  CallsIn Fence.wide n Tryz.prog 190 #[sv,.int .i64 acc,.int .i64 fr,.int .i64 to] w fun e W'=>e= .returned (.slice none 0 0)/\Below w.heap.size w W':=by
 have lD:Fence.wide.round=none:=rfl;have h1:1<=n:=by omega
 have BE:Fence.wide.fn 188:=trivial;refine callsIn_of_wp Tryz.func190 rfl trivial ?_ lD;simp only[Tryz.ntmps190,rL,fY,vR,Nat.reduceAdd,Nat.reduceSub,Td,Te,Tz,Tk,DY,A5]
 gi_wp2_with (gi_at_call 188;refine(aR9 Fence.wide (n - 1) BE lD _ _).mono ?_;rintro e w' ⟨rfl,rfl⟩)
 all_goals
  first
  |(exfalso;unfold KZ at dP;omega)
  |(go_ret;exact⟨rfl,((cZ _ w).alloc (dD _) _).alloc (by simp) _⟩)
def V' (fr:Int)(x:Ev×Int):Nat:=(max fr x.1.i2 - fr).toNat
def SD (fr to:Int)(l:List Int)(x:Ev×Int):List Int:=if x.1.i2<=to then l.set (V' fr x) (wrap64 (l.getD (V' fr x) 0 - x.2)) else l
def AU (fr to:Int)(pre:List (Ev×Int)):List Int:=pre.foldl (SD fr to) (List.replicate (to - fr+1).toNat 0)
def bW9 (fr to:Int)(pre:List (Ev×Int))(x:Ev×Int):AU fr to (pre++[x])=SD fr to (AU fr to pre) x:=by simp[AU]
def aF3 (fr to:Int)(pre:List (Ev×Int)):(AU fr to pre).length=(to - fr+1).toNat:=by
 unfold AU;generalize hl:List.replicate (to - fr+1).toNat (0:Int)=l;have:l.length=(to - fr+1).toNat:=by rw[<-hl];simp
 rw[<-this];clear this hl;induction pre generalizing l with|nil=>rfl|cons x pre ih=>rw[uO,ih];unfold SD;split<;>simp
def dT9 (k:Nat):madeCells (Value.int .i64 0).cells (k*1)=((List.replicate k (0:Int)).map (Value.int .i64)).toArray:=by apply Array.ext;simp[size_madeCells];intro i h1 h2;simp[madeCells,Value.cells,Nat.mod_one]
def w6 (W:World)(b:Nat)(l:List Int):Prop:=W.heap[b]? =some (.cells (l.map (Value.int .i64)).toArray 3 (0,0))
def w6.cell {W:World}{b:Nat}{l:List Int}(h:w6 W b l){k:Nat}(hk:k<l.length):W.cell? ⟨b,k,none⟩=some (.int .i64 (l.getD k 0)):=by unfold World.cell?;rw[h];simp[hk]
def w6.frozen {W:World}{b:Nat}{l:List Int}(h:w6 W b l)(k:Nat):W.frozen? ⟨b,k,none⟩=false:=by unfold World.frozen?;rw[h];simp
def w6.kept {W W':World}{row:Option Nat}{b:Nat}{l:List Int}(h:w6 W b l)(hg:W.grownBy W' row)(bM:some b≠row):w6 W' b l:=(hg.block b (j6.1 h).1 bM).trans h
def w6.alloc {W:World}{b:Nat}{l:List Int}(h:w6 W b l)(o:Obj):w6 (W.alloc o) b l:=h.kept (World.grownBy_alloc W o none) (by simp)
def w6.set {W:World}{b:Nat}{l:List Int}(h:w6 W b l)(k:Nat)(v:Int):w6 (W.setCell ⟨b,k,none⟩ (.int .i64 v)) b (l.set k v):=by obtain⟨bE,hk⟩:=j6.1 h;show(W.heap.modify b _)[b]? =_;rw[sL (by rw[Array.size_modify];exact bE),Array.getElem_modify_self,hk];simp
def bR5 (W:World)(b k:Nat)(v:Value):W.grownBy (W.setCell ⟨b,k,none⟩ v) (some b):=
 ⟨rfl,rfl,rfl,(KeepsWalks.setCell W _ v).size,fun j _ hk=>Below.heap_setCell _ _ _ j (fun e=>hk (by rw[e]))⟩
def dQ7 {β:Type}(b:Nat)(f:β->List Int):Own (fun s W=>w6 W b (f s)):=fun s X Y row hs hg hrow=>
 hs.kept hg (fun e'=>by obtain⟨o,ho,hc⟩:=hrow b e'.symm;rw[show X.heap[b]? =_ from hs] at ho;cases ho;cases hc)
def Fj (l:List Int):Nat->List Int
 |0=>l|k+1=>(Fj l k).set (k+1) (wrap64 ((Fj l k).getD (k+1) 0+(Fj l k).getD k 0))
def aF1 (l:List Int)(k:Nat):(Fj l k).length=l.length:=by induction k with|zero=>rfl|succ k ih=>simp[Fj,ih]
set_option maxRecDepth 100000 in
set_option maxHeartbeats 2000000 in
def eT2 (n:Nat)(hn:3<=n)(a:Option Addr)(cap:Nat)(acc fr to:Int)(es:List Ev)(w:World)(bT:es.length<=4096)(Aw:∀e∈es,e.legs.length<=4096)
  (hE:w7 (fun b=>b<w.heap.size) w a es)(cR:KZ fr to):
  CallsIn Fence.wide n Tryz.prog 190 #[.slice a es.length cap,.int .i64 acc,.int .i64 fr,.int .i64 to] w fun e W'=>∃v,e= .returned v/\W'.ownsRow w.heap.size 3 1 v (to - fr+1).toNat ((Fj (AU fr to (nB acc es)) ((to - fr+1).toNat - 1)).map (Value.int .i64))/\Below w.heap.size w W':=by
 have lD:Fence.wide.round=none:=rfl;have h1:1<=n:=by omega
 have mT:Fence.wide.fn 29:=trivial;have BE:Fence.wide.fn 188:=trivial;obtain⟨ii,hi,Dw,FH,vC⟩:=info_parts eG8;obtain⟨d0,d1,d2,d3,d4,d5⟩:=cR;have hm:∀w':World,(Instr.makeSlice 39 (.int .i64 (to - fr+1)) (.int .i64 (to - fr+1))).run Tryz.prog w'= .ok (.slice (some ⟨w'.heap.size,0,none⟩) (to - fr+1).toNat (to - fr+1).toNat) (w'.alloc (.cells ((List.replicate (to - fr+1).toNat (0:Int)).map (Value.int .i64)).toArray 3)):=fun w'=>by have h:=run_makeSlice (P:=Tryz.prog) w' 39 3 ii (.int .i64 0) Tryz.underlying39 hi Dw .i64 .i64 (to - fr+1) (to - fr+1) (by omega) (Int.le_refl _) (by rw[FH];omega) (by rw[vC];omega) (by omega);rw[FH,dT9] at h;exact h
 refine callsIn_of_wp_marks Tryz.func190 rfl trivial ?_ lD;simp only[Tryz.ntmps190,rL,fY,vR,Nat.reduceAdd,Nat.reduceSub,Td,Te,Tz,Tk,DY,A5]
 gi_wp2_with (first |(gi_at_call 188;refine(aR9 Fence.wide (n - 1) BE lD _ _).mono ?_;rintro e w' ⟨rfl,rfl⟩)|(gi_at_call 29;refine(ZZ Fence.wide (n - 1) mT lD _ _ _ _ _).mono ?_;rintro e w' ⟨rfl,rfl⟩))
 have b0:=Boxed.new w 3 (.int .i64 fr);have b1:=Boxed.new (w.alloc (.cells #[.int .i64 fr] 3)) 3 (.int .i64 to);have b2:w6 (((w.alloc (.cells #[.int .i64 fr] 3)).alloc (.cells #[.int .i64 to] 3)).alloc (.cells (Array.replicate (to - fr+1).toNat (Value.int .i64 0)) 3)) ((w.alloc (.cells #[.int .i64 fr] 3)).alloc (.cells #[.int .i64 to] 3)).heap.size (List.replicate (to - fr+1).toNat (0:Int)):=by unfold w6;rw[List.map_replicate,List.toArray_replicate];exact World.alloc_heap_new _ _
 have b3:=Boxed.new (((w.alloc (.cells #[.int .i64 fr] 3)).alloc (.cells #[.int .i64 to] 3)).alloc (.cells (Array.replicate (to - fr+1).toNat (Value.int .i64 0)) 3)) 39 (.slice (some ⟨w.heap.size+1+1,0,none⟩) (to - fr+1).toNat (to - fr+1).toNat);have b4:=Boxed.new ((((w.alloc (.cells #[.int .i64 fr] 3)).alloc (.cells #[.int .i64 to] 3)).alloc (.cells (Array.replicate (to - fr+1).toNat (Value.int .i64 0)) 3)).alloc (.cells #[.slice (some ⟨w.heap.size+1+1,0,none⟩) (to - fr+1).toNat (to - fr+1).toNat] 39)) 29 (.slice a es.length cap);have b5:=Boxed.new (((((w.alloc (.cells #[.int .i64 fr] 3)).alloc (.cells #[.int .i64 to] 3)).alloc (.cells (Array.replicate (to - fr+1).toNat (Value.int .i64 0)) 3)).alloc (.cells #[.slice (some ⟨w.heap.size+1+1,0,none⟩) (to - fr+1).toNat (to - fr+1).toNat] 39)).alloc (.cells #[.slice a es.length cap] 29)) 3 (.int .i64 acc);obtain⟨W0,Cp⟩:∃W0,((((((w.alloc (.cells #[.int .i64 fr] 3)).alloc (.cells #[.int .i64 to] 3)).alloc (.cells (Array.replicate (to - fr+1).toNat (Value.int .i64 0)) 3)).alloc (.cells #[.slice (some ⟨w.heap.size+1+1,0,none⟩) (to - fr+1).toNat (to - fr+1).toNat] 39)).alloc (.cells #[.slice a es.length cap] 29)).alloc (.cells #[.int .i64 acc] 3))=W0:=⟨_,rfl⟩;have dA:W0.heap.size=w.heap.size+6:=by rw[<-Cp];simp
 have hB0:Below w.heap.size w W0:=by rw[<-Cp];exact((((((cZ _ w).alloc (by simp) _).alloc (by simp) _).alloc (by simp;omega) _).alloc (by simp;omega) _).alloc (by simp;omega) _).alloc (by simp;omega) _
 have c0:=(((((b0).alloc (.cells #[.int .i64 to] 3)).alloc (.cells (Array.replicate (to - fr+1).toNat (Value.int .i64 0)) 3)).alloc (.cells #[.slice (some ⟨w.heap.size+1+1,0,none⟩) (to - fr+1).toNat (to - fr+1).toNat] 39)).alloc (.cells #[.slice a es.length cap] 29)).alloc (.cells #[.int .i64 acc] 3);have c1:=((((b1).alloc (.cells (Array.replicate (to - fr+1).toNat (Value.int .i64 0)) 3)).alloc (.cells #[.slice (some ⟨w.heap.size+1+1,0,none⟩) (to - fr+1).toNat (to - fr+1).toNat] 39)).alloc (.cells #[.slice a es.length cap] 29)).alloc (.cells #[.int .i64 acc] 3);have c2:=(((b2).alloc (.cells #[.slice (some ⟨w.heap.size+1+1,0,none⟩) (to - fr+1).toNat (to - fr+1).toNat] 39)).alloc (.cells #[.slice a es.length cap] 29)).alloc (.cells #[.int .i64 acc] 3);have c3:=((b3).alloc (.cells #[.slice a es.length cap] 29)).alloc (.cells #[.int .i64 acc] 3);have c4:=(b4).alloc (.cells #[.int .i64 acc] 3);rw[Cp] at b5 c0 c1 c2 c3 c4;simp only[World.size_alloc,UC,Nat.reduceAdd] at b1 b2 b3 b4 b5 c1 c2 c3 c4;have lO:w7 (fun b=>b<w.heap.size) W0 a es:=hE.bel (fun _ hb=>hb) hB0;simp only[UC,Nat.reduceAdd,Cp];clear Cp hE;obtain⟨N,hN⟩:∃N,w.heap.size=N:=⟨_,rfl⟩;simp only[hN] at b0 b1 b2 b3 b4 b5 c0 c1 c2 c3 c4 dA hB0 lO⊢;refine wpIn_rangeFunc_ownH lD h1 (gf:=68) (lb:= #[.pointer (some ⟨N+4,0,none⟩),.pointer (some ⟨N+5,0,none⟩)]) rfl trivial (enters_of Tryz.func68 (by kernel_rfl) rfl)
  (ZY Fence.wide (n - 1) trivial lD (by omega) (N+4) (N+5) (N+6) (fun b=>b=N+2) a cap acc es W0 dA.symm bT Aw c4.cell (by omega) b5.cell (by omega) (lO.mono (fun b hb=>⟨by omega,by omega⟩)))
  Kp.trans (fun W l o o' hl h hc _=>Kp.b (by omega) W l o o' hl h hc) (cZ _ _) (fun _=>rfl)
  (fun pre W=>Boxed W N 3 (.int .i64 fr)/\Boxed W (N+1) 3 (.int .i64 to)/\w6 W (N+2) (AU fr to pre)/\Boxed W (N+3) 39 (.slice (some ⟨N+2,0,none⟩) (to - fr+1).toNat (to - fr+1).toNat)/\Below N w W)
  (fun _ _ _=>False)
  ((Own.from (boxed_own _ _ _) _).and ((Own.from (boxed_own _ _ _) _).and ((Own.from (dQ7 _ _) _).and ((Own.from (boxed_own _ _ _) _).and (ownFrom_below (by omega) (by omega))))))
  (fun _ _ _ _ _ hs _ _=>hs)
  ⟨c0,c1,c2,c3,hB0⟩
  (fun x a' W=>∃Bx,W.cell? ⟨Bx,1,none⟩=some (.int .i64 x.1.i1)/\W.cell? ⟨Bx,2,none⟩=some (.int .i64 x.1.i2)/\a'={tmps:= #[.slice a es.length cap,.int .i64 acc,.int .i64 fr,.int .i64 to,undef,undef,.pointer (some ⟨N,0,none⟩),.pointer (some ⟨N+1,0,none⟩),.slice none 0 0,.pointer (some ⟨N+3,0,none⟩),.pointer (some ⟨Bx,0,none⟩),.int .i64 x.2,undef,.int .i64 fr,.bool true,.bool false,.bool false,.int .i64 to,.bool true,.bool false,.bool false,.bool false,.int .i64 fr,.int .i64 to,.bool (decide (to<fr)),.bool (decide (to<fr)),.bool (decide (to<fr)),.int .i64 to,.int .i64 fr,.int .i64 (to - fr),.bool (decide (4000<=to - fr)),.bool (decide (to<fr)||decide (4000<=to - fr)),.int .i64 to,.int .i64 fr,.int .i64 (to - fr),.int .i64 (to - fr+1),.slice (some ⟨N+2,0,none⟩) (to - fr+1).toNat (to - fr+1).toNat,.slice a es.length cap,.int .i64 acc,.func (.func 68) #[] #[.pointer (some ⟨N+4,0,none⟩),.pointer (some ⟨N+5,0,none⟩)],x.1.agg,.int .i64 x.2,undef,undef,undef,undef,undef,undef,undef,undef,undef,undef,undef,undef,undef,undef,undef,undef,undef,undef,undef,undef,undef,undef,undef,undef,undef,undef,undef,undef,undef,undef,undef,undef,undef,undef],defers:=[]})
  (fun x a'=>OwnFrom.ex fun Bx=>bY0 Bx _ _ _) ?assign ?body ?done ?stop
 case assign=>
  rintro l pre x W K ⟨i0,i1,i2,i3,i4⟩ hK
  gi_wp2
  have hv:=bU8 W x.1;exact hK _ _ ((KeepsOthers.alloc _ _).from _) ((Kp.refl ..).alloc _) ⟨i0.alloc _,i1.alloc _,i2.alloc _,i3.alloc _,i4.alloc (by have:=i4.size;omega) _⟩ ⟨W.heap.size,hv.1,hv.2,rfl⟩
 case body=>
  rintro l pre x a' W hl hr ⟨i0,i1,i2,i3,i4⟩ ⟨Bx,r8,zD,rfl⟩ eF;have Bz:=i0.cell;have oE:=i1.cell;have hc3:=i3.cell;have Av:=aF3 fr to pre;by_cases FL:x.1.i2<=to
  ·have fin:∀(k:Nat) (ac:Act),V' fr x=k->ownPostG W0.heap.size (Kp (N+6) fun b=>b=N+2) (fun pre W=>Boxed W N 3 (.int .i64 fr)/\Boxed W (N+1) 3 (.int .i64 to)/\w6 W (N+2) (AU fr to pre)/\Boxed W (N+3) 39 (.slice (some ⟨N+2,0,none⟩) (to - fr+1).toNat (to - fr+1).toNat)/\Below N w W) (fun _ _ _=>False) (pre++[x]) W .normal ac (W.setCell ⟨N+2,k,none⟩ (.int .i64 (wrap64 ((AU fr to pre).getD k 0 - x.2)))):=fun k ac hk=>by
    have hg:=bR5 W (N+2) k (.int .i64 (wrap64 ((AU fr to pre).getD k 0 - x.2)));refine⟨(KeepsOthers.setCell _ _ _).from _,(Kp.refl _ _ W).grown hg (fun r e=> .inr (by cases e;rintro(⟨_,h⟩|⟨h,_⟩);exact h rfl;omega)),i0.kept hg (by simp),i1.kept hg (by simp),?_,i3.kept hg (by simp),i4.setCell (p:=⟨N+2,k,none⟩) (by show N<=N+2;omega) _⟩;rw[bW9,SD,aY FL,hk];exact i2.set k _
   have hk:V' fr x=(max fr x.1.i2 - fr).toNat:=rfl;have hcx:=i2.cell (k:=(max fr x.1.i2 - fr).toNat) (by omega);have AI:=i2.frozen (max fr x.1.i2 - fr).toNat
   gi_wp2
   exact fin _ _ hk
  ·gi_wp2
   exact⟨KeepsFrom.refl _ _,Kp.refl ..,i0,i1,by rw[bW9,SD,aK (by omega)];exact i2,i3,i4⟩
 case done=>
  rintro D ys W hD rfl ⟨i0,i1,i2,i3,i4⟩ hK;have hc3:=i3.cell;have Av:=aF3 fr to (nB acc es)
  gi_wp2
  gi_loopw [12] (fun i wr=>∃k:Nat,k+1<=(to - fr+1).toNat/\i= .int .i64 ((k:Int)+1)/\w6 wr (N+2) (Fj (AU fr to (nB acc es)) k)/\Boxed wr (N+3) 39 (.slice (some ⟨N+2,0,none⟩) (to - fr+1).toNat (to - fr+1).toNat)/\Below N w wr/\wr.heap[D]? =some (.deferred (some [])))
   (fun i _=>(to - fr+1).toNat - (intOf i).toNat)
  case atStart=>exact⟨0,by omega,rfl,i2,i3,i4,hK⟩
  case round=>
   obtain⟨k,hk,rfl,j2,j3,j4,j5⟩:=hrel;have hjc:=j3.cell;have pE:=aF1 (AU fr to (nB acc es)) k;by_cases kD:k+1<(to - fr+1).toNat
   ·obtain⟨y1,y0,q1,q0,aC⟩:∃y1 y0,wr.cell? ⟨N+2,k+1,none⟩=some (.int .i64 y1)/\wr.cell? ⟨N+2,k,none⟩=some (.int .i64 y0)/\Fj (AU fr to (nB acc es)) (k+1)=(Fj (AU fr to (nB acc es)) k).set (k+1) (wrap64 (y1+y0)):=⟨_,_,j2.cell (by omega),j2.cell (by omega),rfl⟩;have qf:=j2.frozen (k+1)
    gi_wp2
    refine wpIn_wide.2 (dI1 (N:=N+2) (M:=N+3) (k:=k) (K:=(to - fr+1).toNat) (y1:=y1) (y0:=y0) rfl rfl rfl kD (by omega) hjc q1 q0 qf (by kernel_rfl) ?_)
    gi_wp2
    have hg:=bR5 wr (N+2) (k+1) (.int .i64 (wrap64 (y1+y0)));refine⟨⟨k+1,kD,by simp,?_,?_,(j4.setCell (p:=⟨N+2,k+1,none⟩) (by show N<=N+2;omega) _).drew,?_⟩,by simp[intOf];omega⟩;rw[aC];exact j2.set (k+1) _;have h:=j3.kept hg (by simp);exact h;exact(KeepsOthers.setCell _ _ _).same D _ j5 rfl
   ·gi_wp2
    refine⟨by simp,.inl ⟨_,_,rfl,run_takeDeferred j5,?_⟩⟩;have hkE:(to - fr+1).toNat - 1=k:=by omega
    have hrow:(wr.putObj D (.deferred none)).ownsRow w.heap.size 3 1 (.slice (some ⟨N+2,0,none⟩) (to - fr+1).toNat (to - fr+1).toNat) (to - fr+1).toNat ((Fj (AU fr to (nB acc es)) ((to - fr+1).toNat - 1)).map (Value.int .i64)):=by rw[hkE];refine⟨by simp[pE,Av],.inr ⟨N+2,_,_,rfl,by omega,(World.putObj_heap_other (by omega)).trans j2,dD _,by simp only[maxLen];omega,by simp[pE,Av],?_⟩⟩;rw[rM (by simp[pE,Av])]
    exact⟨_,results_tmp rfl _ _ _,.slice (some ⟨N+2,0,none⟩) (to - fr+1).toNat (to - fr+1).toNat,rfl,hrow,by rw[hN];exact j4.trans (belowK_b (w:=w) (by omega) wr D _ _ (by omega) j5 rfl rfl)⟩
 case stop=>rintro D c pre W _ _ h _;exact h.elim
end Go.Proofs.YtdlpbedneamebaaGreatDoor
