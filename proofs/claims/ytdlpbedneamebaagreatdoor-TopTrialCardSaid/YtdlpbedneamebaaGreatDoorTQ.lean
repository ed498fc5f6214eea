/-
Plain laws and walks: part of the proof of the last text.
-/
import Derived.Test.YtdlpbedneamebaaGreatDoorVK
import Derived.Lib.AppendZerosOnto
import Derived.Lib.Overlaps
import Derived.Test.YtdlpbedneamebaaGreatDoorTP
import Derived.Deep.RegionHeld3
set_option linter.all false
namespace Go.Proofs.YtdlpbedneamebaaGreatDoor
open Go.VM Go.RowKit Go.Lib
set_option linter.unusedSectionVars false
variable [cB]
def OS {S:Nat->Prop}{w:World}{vs:List Value}{es:List V}(h:aX S w vs (cL es))(hc:∀x∈cL es,x.cell=true):∀v∈vs,v.oneCell'=true:=by
 intro v hv;obtain⟨j,hj⟩:=QD hv;have hl:j<(cL es).length:=by rw[<-h.1];exact(fE.1 hj).1
 exact(h.2 j v _ hj (eI hl)).oneCell (hc _ (gN hl))
def bQ6:∃i:TypeInfo,Tryz.prog.info? 122=some i/\∃z,i.zero=some z/\i.size=2/\i.bytes=24/\z.cells.size=2:=⟨Tryz.t122,by kernel_rfl,Tryz.t122.zero.getD undef,by kernel_rfl,by kernel_rfl,by kernel_rfl,by kernel_rfl⟩
set_option maxHeartbeats 4000000 in
set_option maxRecDepth 100000 in
def bQ1 (w:World)(aD:Nat)(u:Value)(n:Nat)(xs news:List Value)(vb voff vc:Nat)(cA:w.ownsRow aD 122 2 u n xs)(hl:news.length=2)(pU:∀(j:Nat) v,news[j]? =some v->w.cell? ⟨vb,voff+j,none⟩=some v)(h1:∀v∈news,v.oneCell'=true)
  (MS:(n+1)*24<=140737488355328)(F5:aD<=w.heap.size):
  Calls Tryz.prog 97 #[u,.int .i64 n,.slice (some ⟨vb,voff,none⟩) 1 vc] w fun e w'=>∃v',e= .returned v'/\w'.ownsRow aD 122 2 v' (n+1) (xs++news)/\w.grownBy w' u.ownBlock/\(v'.ownBlock=u.ownBlock\/v'.ownBlock=some w.heap.size):=by
 obtain⟨i,hi,z,hz,hs,F4,gP⟩:=bQ6;have t0:=Tryz.underlying0;have a0:=Tryz.isAgg0;have z0:=Tryz.sizeOf0;have v0:=Tryz.zeroValue0;have t3:=Tryz.underlying3;have a3:=Tryz.isAgg3;have z3:=Tryz.sizeOf3;have v3:=Tryz.zeroValue3;have t4:=Tryz.underlying4;have a4:=Tryz.isAgg4;have z4:=Tryz.sizeOf4;have v4:=Tryz.zeroValue4;have t119:=Tryz.underlying119;have a119:=Tryz.isAgg119;have z119:=Tryz.sizeOf119;have v119:=Tryz.zeroValue119;have z122:=Tryz.sizeOf122;have a122:=Tryz.isAgg122;have u0:=eE Tryz.underlying0;have u3:=eE Tryz.underlying3;have u4:=eE Tryz.underlying4;have u119:=eE Tryz.underlying119;have bY:∀ty,∃v' w',(Builtin.append_ #[119,119] ty #[u,.slice (some ⟨vb,voff,none⟩) 1 vc]).run Tryz.prog w= .ok v' w'/\w'.ownsRow aD 122 2 v' (n+1) (xs++news)/\w.grownBy w' u.ownBlock/\(v'= .slice none 0 0↔u= .slice none 0 0/\1=0)/\(v'.ownBlock=u.ownBlock\/v'.ownBlock=some w.heap.size):=fun ty=>
  Xd w aD 119 ty 122 i z 2 24 Tryz.underlying119 hi hz hs F4 gP (by omega) u n xs cA ⟨vb,voff,none⟩ 1 vc news (by omega) (fun j v hj=>by rw[D4];exact pU j v hj) h1 (by unfold maxLen;omega) MS F5
 obtain⟨v',w',hr,h2,h3,_,h4⟩:=bY 119;rcases cA.2 with⟨rfl,rfl⟩|⟨g,cap,cur,rfl,sF,hg,rF,tB,lG,Bs⟩
 ·go_enter Tryz.func97,Tryz.ntmps97
  go_wp2_with (at_builtin;refine Lib.wpList_append_run _ rfl _ _ _ _ rfl _ _ rfl rfl _ _ hr ?_)
  all_goals(go_ret;exact⟨v',rfl,h2,h3,h4⟩)
 ·have hcm':cap<=9223372036854775807:=by unfold maxLen at tB;omega
  go_enter Tryz.func97,Tryz.ntmps97
  go_wp2_with (at_builtin;refine Lib.wpList_append_run _ rfl _ _ _ _ rfl _ _ rfl rfl _ _ hr ?_)
  all_goals(go_ret;exact⟨v',rfl,h2,h3,h4⟩)
def K7:Tryz.prog.cellsOf 122=2:=by kernel_rfl
def bQ5:∃i:TypeInfo,Tryz.prog.info? 61=some i/\∃z,i.zero=some z/\i.size=3/\i.bytes=32/\z.cells.size=3:=⟨Tryz.t61,by kernel_rfl,Tryz.t61.zero.getD undef,by kernel_rfl,by kernel_rfl,by kernel_rfl,by kernel_rfl⟩
set_option maxHeartbeats 4000000 in
set_option maxRecDepth 100000 in
def bQ2 (w:World)(aD:Nat)(u:Value)(n:Nat)(xs news:List Value)(vb voff vc:Nat)(cA:w.ownsRow aD 61 3 u n xs)(hl:news.length=3)(pU:∀(j:Nat) v,news[j]? =some v->w.cell? ⟨vb,voff+j,none⟩=some v)(h1:∀v∈news,v.oneCell'=true)
  (MS:(n+1)*32<=140737488355328)(F5:aD<=w.heap.size):
  Calls Tryz.prog 150 #[u,.int .i64 n,.slice (some ⟨vb,voff,none⟩) 1 vc] w fun e w'=>∃v',e= .returned v'/\w'.ownsRow aD 61 3 v' (n+1) (xs++news)/\w.grownBy w' u.ownBlock/\(v'.ownBlock=u.ownBlock\/v'.ownBlock=some w.heap.size):=by
 obtain⟨i,hi,z,hz,hs,F4,gP⟩:=bQ5;have t0:=Tryz.underlying0;have a0:=Tryz.isAgg0;have z0:=Tryz.sizeOf0;have v0:=Tryz.zeroValue0;have t3:=Tryz.underlying3;have a3:=Tryz.isAgg3;have z3:=Tryz.sizeOf3;have v3:=Tryz.zeroValue3;have t4:=Tryz.underlying4;have a4:=Tryz.isAgg4;have z4:=Tryz.sizeOf4;have v4:=Tryz.zeroValue4;have Up:=Tryz.underlying56;have a56:=Tryz.isAgg56;have z56:=Tryz.sizeOf56;have v56:=Tryz.zeroValue56;have z61:=Tryz.sizeOf61;have a61:=Tryz.isAgg61;have u0:=eE Tryz.underlying0;have u3:=eE Tryz.underlying3;have u4:=eE Tryz.underlying4;have u56:=eE Tryz.underlying56;have bY:∀ty,∃v' w',(Builtin.append_ #[56,56] ty #[u,.slice (some ⟨vb,voff,none⟩) 1 vc]).run Tryz.prog w= .ok v' w'/\w'.ownsRow aD 61 3 v' (n+1) (xs++news)/\w.grownBy w' u.ownBlock/\(v'= .slice none 0 0↔u= .slice none 0 0/\1=0)/\(v'.ownBlock=u.ownBlock\/v'.ownBlock=some w.heap.size):=fun ty=>
  Xd w aD 56 ty 61 i z 3 32 Tryz.underlying56 hi hz hs F4 gP (by omega) u n xs cA ⟨vb,voff,none⟩ 1 vc news (by omega) (fun j v hj=>by rw[D4];exact pU j v hj) h1 (by unfold maxLen;omega) MS F5
 obtain⟨v',w',hr,h2,h3,_,h4⟩:=bY 56;rcases cA.2 with⟨rfl,rfl⟩|⟨g,cap,cur,rfl,sF,hg,rF,tB,lG,Bs⟩
 ·go_enter Tryz.func150,Tryz.ntmps150
  go_wp2_with (at_builtin;refine Lib.wpList_append_run _ rfl _ _ _ _ rfl _ _ rfl rfl _ _ hr ?_)
  all_goals(go_ret;exact⟨v',rfl,h2,h3,h4⟩)
 ·have hcm':cap<=9223372036854775807:=by unfold maxLen at tB;omega
  go_enter Tryz.func150,Tryz.ntmps150
  go_wp2_with (at_builtin;refine Lib.wpList_append_run _ rfl _ _ _ _ rfl _ _ rfl rfl _ _ hr ?_)
  all_goals(go_ret;exact⟨v',rfl,h2,h3,h4⟩)
def Fu:Tryz.prog.cellsOf 61=3:=by kernel_rfl
end Go.Proofs.YtdlpbedneamebaaGreatDoor
namespace Go.Proofs.YtdlpbedneamebaaGreatDoor
open Go.Sort Go.Lib Go.Proofs Go.Shelf Go.RowKit
def ZV (s:ByteArray)(w:World):Calls Tryz.prog 73 #[.string s] w fun e w'=>e= .returned (.bool false)/\w'=w:=by
 go_enter Tryz.func73,Tryz.ntmps73
 go_wp2
 go_ret
 exact⟨by simp,rfl⟩
def HJ (a b:List UInt8):Int:=if Op.bytesLess a b then -1 else if a=b then 0 else 1
def eV4 (a b:ByteArray)(w:World):Calls Tryz.prog 35 #[.string a,.string b] w fun e w'=>e= .returned (.int .i64 (HJ a.data.toList b.data.toList))/\w'=w:=by
 rw[<-ByteArray.toList_eq a,<-ByteArray.toList_eq b];have hgt:∀w':World,(binOp BinOp.gtr 9 (.string a) (.string b)).run Tryz.prog w'= .ok (.bool (!(Op.bytesLess a.toList b.toList||decide (a.toList=b.toList)))) w':=fun w'=>by have hd:(a.data==b.data)=decide (a.data=b.data):=Bool.eq_iff_iff.2 (by simp);simp[binOp,Op.stringOp,ByteArray.toList_eq,hd]
 by_cases hl:Op.bytesLess a.toList b.toList=true
 ·have hc:HJ a.toList b.toList= -1:=by unfold HJ;rw[if_pos hl]
  rw[hc]
  go_enter Tryz.func35,Tryz.ntmps35
  go_wp2_with (go_at_call 73;refine(ZV _ _).mono ?_;rintro e w' ⟨rfl,rfl⟩)
  go_ret
  exact⟨rfl,rfl⟩
 ·have zG:Op.bytesLess a.toList b.toList=false:=by simpa using hl
  by_cases he:a.toList=b.toList
  ·have hc:HJ a.toList b.toList=0:=by unfold HJ;rw[if_neg hl,if_pos he]
   rw[hc];rw[zG,decide_eq_true he] at hgt;simp only[Bool.or_true,Bool.not_true] at hgt;clear he hl
   go_enter Tryz.func35,Tryz.ntmps35
   go_wp2_with (go_at_call 73;refine(ZV _ _).mono ?_;rintro e w' ⟨rfl,rfl⟩)
   go_ret
   exact⟨rfl,rfl⟩
  ·have hc:HJ a.toList b.toList=1:=by unfold HJ;rw[if_neg hl,if_neg he]
   rw[hc];rw[zG,decide_eq_false he] at hgt;simp only[Bool.or_false,Bool.not_false] at hgt;clear he hl
   go_enter Tryz.func35,Tryz.ntmps35
   go_wp2_with (go_at_call 73;refine(ZV _ _).mono ?_;rintro e w' ⟨rfl,rfl⟩)
   go_ret
   exact⟨rfl,rfl⟩
def dM2 (b cap:Nat)(x y:Int)(w:World)(h0:w.cell? ⟨b,0,none⟩=some (.int .i64 x))(h1:w.cell? ⟨b,1,none⟩=some (.int .i64 y)):
  Calls Tryz.prog 33 #[.slice (some ⟨b,0,none⟩) 2 cap] w fun e w'=>e= .returned (.int .i64 (if x=0 then y else x))/\w'=w:=by
 go_enter Tryz.func33,Tryz.ntmps33
 go_wp2
 go_loopw [8] (fun i wr=>∃k:Nat,k<=2/\i= .int .i64 k/\wr=w/\(1<=k->x=0)/\(2<=k->y=0)) (fun i _=>2 - (intOf i).toNat)
 case atStart=>exact⟨0,by omega,rfl,rfl,by omega,by omega⟩
 case round=>
  obtain⟨k,hk,rfl,rfl,hx,hy⟩:=hrel
  match k,hk with
  |0,_=>
   by_cases hz:x=0
   ·subst hz
    go_wp2
    exact⟨⟨1,by omega,rfl,trivial,fun _=>trivial,by omega⟩,by simp[intOf]⟩
   ·go_wp2
    go_ret
    exact⟨rfl,rfl⟩
  |1,_=>
   have FO:=hx (by omega);subst FO;by_cases hz:y=0
   ·subst hz
    go_wp2
    exact⟨⟨2,by omega,rfl,trivial,fun _=>trivial,fun _=>trivial⟩,by simp[intOf]⟩
   ·go_wp2
    go_ret
    exact⟨rfl,rfl⟩
  |2,_=>
   have FO:=hx (by omega);have Dx:=hy (by omega);subst FO Dx
   go_wp2
   go_ret
   exact⟨rfl,rfl⟩
def dR7 (w:World)(u v:Value)(t:TypeId):(w.alloc (.cells #[u,v] t)).cell? ⟨w.heap.size,0,none⟩=some u:=by unfold World.cell?;rw[heap_alloc_new];rfl
def dR6 (w:World)(u v:Value)(t:TypeId):(w.alloc (.cells #[u,v] t)).cell? ⟨w.heap.size,1,none⟩=some v:=by unfold World.cell?;rw[heap_alloc_new];rfl
abbrev cD9:=Int×Int×ByteArray
def WR (x y:cD9):Int:=if Lib.compareInt x.1 y.1=0 then HJ x.2.2.data.toList y.2.2.data.toList else Lib.compareInt x.1 y.1
set_option maxHeartbeats 2000000 in
def eW0 (x y:cD9)(W:World):Calls Tryz.prog 32 #[.agg #[.int .i64 x.1,.int .i64 x.2.1,.string x.2.2],.agg #[.int .i64 y.1,.int .i64 y.2.1,.string y.2.2]] W fun e w'=>e= .returned (.int .i64 (WR x y))/\∃q os',w'=grow (W.drewN q) os':=by
 have MR:=fun W'=>AnyG.cmp_Compare_int Tryz.cmpI x.1 y.1 W';change∀W',Calls Tryz.prog 34 _ _ _ at MR;have lG:=fun W'=>eV4 x.2.2 y.2.2 W';unfold WR;generalize Lib.compareInt x.1 y.1=r at MR⊢;generalize HJ x.2.2.data.toList y.2.2.data.toList=q at lG⊢;obtain⟨z,hz⟩:∃z,(if r=0 then q else r)=z:=⟨_,rfl⟩;have hor:∀(b cap:Nat) (W':World),W'.cell? ⟨b,0,none⟩=some (.int .i64 r)->W'.cell? ⟨b,1,none⟩=some (.int .i64 q)->Calls Tryz.prog 33 #[.slice (some ⟨b,0,none⟩) 2 cap] W' fun e w'=>e= .returned (.int .i64 z)/\w'=W':=fun b cap W' h0 h1=>hz▸dM2 b cap r q W' h0 h1;rw[hz];clear hz;obtain⟨xa,xm,xc⟩:=x;obtain⟨ya,ym,yc⟩:=y;dsimp only at*
 go_enter Tryz.func32,Tryz.ntmps32
 go_wp2
 have lF:=heap_alloc_new W (.cells #[.int .i64 xa,.int .i64 xm,.string xc] 61);have mE:=heap_alloc_new (W.alloc (.cells #[.int .i64 xa,.int .i64 xm,.string xc] 61)) (.cells #[.int .i64 ya,.int .i64 ym,.string yc] 61);have hn3:=(Below.heap_alloc (W.alloc (.cells #[.int .i64 xa,.int .i64 xm,.string xc] 61)) (.cells #[.int .i64 ya,.int .i64 ym,.string yc] 61) W.heap.size (by simp)).trans lF;rw[World.size_alloc] at mE;have hgw:∃os',((W.alloc (.cells #[.int .i64 xa,.int .i64 xm,.string xc] 61)).alloc (.cells #[.int .i64 ya,.int .i64 ym,.string yc] 61))=grow W os':=⟨_,by rw[alloc_eq_grow,alloc_eq_grow,grow_grow]⟩;generalize ((W.alloc (.cells #[.int .i64 xa,.int .i64 xm,.string xc] 61)).alloc (.cells #[.int .i64 ya,.int .i64 ym,.string yc] 61))=W2 at mE hn3 hgw⊢;have c0:W2.cell? ⟨W.heap.size,0,none⟩=some (.int .i64 xa):=by unfold World.cell?;rw[hn3];rfl
 have c1:W2.cell? ⟨W.heap.size,2,none⟩=some (.string xc):=by unfold World.cell?;rw[hn3];rfl
 have c2:W2.cell? ⟨W.heap.size+1,0,none⟩=some (.int .i64 ya):=by unfold World.cell?;rw[mE];rfl
 have c3:W2.cell? ⟨W.heap.size+1,2,none⟩=some (.string yc):=by unfold World.cell?;rw[mE];rfl
 have l1:=(Array.getElem?_eq_some_iff.1 hn3).1;have l2:=(Array.getElem?_eq_some_iff.1 mE).1;have n0:=World.new_ne _ _ c0;have n1:=World.new_ne _ _ c1;have n2:=World.new_ne _ _ c2;have n3:=World.new_ne _ _ c3;clear lF mE hn3
 go_region_held3 (fun w'=>w'.cell? ⟨W.heap.size,0,none⟩=some (.int .i64 xa)/\w'.cell? ⟨W.heap.size,2,none⟩=some (.string xc)/\w'.cell? ⟨W.heap.size+1,0,none⟩=some (.int .i64 ya)/\w'.cell? ⟨W.heap.size+1,2,none⟩=some (.string yc)) (go_keep) (first |(go_at_call 34;refine(MR _).mono ?_;rintro e w' ⟨rfl,rfl⟩)|(go_at_call 35;refine(lG _).mono ?_;rintro e w' ⟨rfl,rfl⟩)|(go_at_call 33;refine(hor W2.heap.size 2 (W2.alloc (.cells #[.int .i64 r,.int .i64 q] 3)).drew (dR7 W2 _ _ 3) (dR6 W2 _ _ 3)).mono ?_;rintro e w' ⟨rfl,rfl⟩))
 go_wp2
 go_ret
 obtain⟨os',rfl⟩:=hgw;refine⟨rfl,1,os'.push (.cells #[.int .i64 r,.int .i64 q] 3),?_⟩;rw[alloc_eq_grow,grow_grow];rfl
end Go.Proofs.YtdlpbedneamebaaGreatDoor
