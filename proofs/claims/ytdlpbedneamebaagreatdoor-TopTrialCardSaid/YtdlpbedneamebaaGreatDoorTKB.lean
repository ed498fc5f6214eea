/-
Plain laws and walks: part of the proof of the last text.
-/
import Derived.Test.YtdlpbedneamebaaGreatDoorTT
import Derived.Test.YtdlpbedneamebaaGreatDoorTS
set_option linter.all false
namespace Go.Proofs.YtdlpbedneamebaaGreatDoor
open Go.VM Go.RowKit Go.Shelf
def aS2 (l:qV)(u:List (Pk×Int)):qV:=u.foldl (fun l x=>C3 l x.1 x.2) l
def ar1 (t:Int):List (Pk×Int):=[((7,1,t),t),((7,t,1),t),((8,t,1),t)]
def ar2 (t:Int):List (Pk×Int):=[((5,t,t),t),((6,t,t),t)]
def XC:Nat->qV
 |0=>qD|k+1=>aS2 (XC k) (ar1 (2+k))
def XB:Nat->qV
 |0=>XC 2|k+1=>aS2 (XB k) (ar2 (1+k))
def Ps (k:Pk):Int:=uI (XB 3) k
def N5 (w:World)(M:qV)(wr:World):Prop:=∃es clock L,wr.heap[w.heap.size]? =some (.map es clock)/\rI es clock L/\(∀k,uI L k=uI M k)/\Below w.heap.size w wr
def N5.upd {w wr:World}{M:qV}(h:N5 w M wr){k:Pk}(hk:GG k)(n:Int):∃wr',(Instr.mapUpdate 325 (.map (some w.heap.size)) (jK k) (.int .i64 n)).run Tryz.prog wr= .ok () wr'/\N5 w (C3 M k n) wr':=by obtain⟨es,clock,L,hh,hP,hL,hB⟩:=h;obtain⟨es1,AW,hP1,hu⟩:=aS4 hP hk n;exact⟨_,hu _ _ hh,es1,AW,C3 L k n,Uw hh,hP1,fun q=>by rw[Vj,Vj,hL q],hB.grown Ux hB.size (fun k hk=>by cases hk;exact dD _)⟩
set_option maxHeartbeats 6400000 in
set_option maxRecDepth 100000 in
def fA6 (w:World):Calls Tryz.prog 278 #[] w fun e w'=>e= .returned (.map (some w.heap.size))/\∃es clock L,w'.heap[w.heap.size]? =some (.map es clock)/\rI es clock L/\(∀k,uI L k=Ps k)/\Below w.heap.size w w':=by
 suffices h:Calls Tryz.prog 278 #[] w fun e w'=>e= .returned (.map (some w.heap.size))/\N5 w (XB 3) w' from h
 have ht3:∀h,(Tryz.prog.types[3]'h).size=1:=fun _=>by kernel_rfl
 go_enter Tryz.func278,Tryz.ntmps278
 go_wp2
 refine fB0 rfl (by kernel_rfl) fun w1 es clock L MN hP hL hB=> ?_;have h0:N5 w (XC 0) w1:=⟨es,clock,L,MN,hP,hL,hB⟩;clear MN hP hL hB;simp[List.range,List.range.loop,BJ,LQ,qD,jK,Act.put,go_sem];rename_i a0;apply a0;clear a0
 go_wp2
 go_loopw [3,17] (fun _ i wr=>∃k:Nat,k<=2/\i= .int .i64 k/\N5 w (XC k) wr) (fun _ i _=>2 - (intOf i).toNat)
 case atStart=>exact⟨0,by omega,rfl,h0⟩
 case round=>
  obtain⟨k,hk,rfl,hA⟩:=hrel;have:k=0\/k=1\/k=2:=by omega
  rcases this with rfl|rfl|rfl
  ·obtain⟨w2,u2,hA⟩:=hA.upd (k:=(7,1,2)) ⟨rfl,rfl,rfl⟩ 2;obtain⟨w3,u3,hA⟩:=hA.upd (k:=(7,2,1)) ⟨rfl,rfl,rfl⟩ 2;obtain⟨w4,u4,hA⟩:=hA.upd (k:=(8,2,1)) ⟨rfl,rfl,rfl⟩ 2;simp only[jK] at u2 u3 u4
   go_wp2
   rename_i a9;simp[ht3,Act.put];apply a9;clear a9
   go_wp2
   exact⟨⟨1,by omega,rfl,hA⟩,by simp[intOf]⟩
  ·obtain⟨w2,u2,hA⟩:=hA.upd (k:=(7,1,3)) ⟨rfl,rfl,rfl⟩ 3;obtain⟨w3,u3,hA⟩:=hA.upd (k:=(7,3,1)) ⟨rfl,rfl,rfl⟩ 3;obtain⟨w4,u4,hA⟩:=hA.upd (k:=(8,3,1)) ⟨rfl,rfl,rfl⟩ 3;simp only[jK] at u2 u3 u4
   go_wp2
   rename_i a9;simp[ht3,Act.put];apply a9;clear a9
   go_wp2
   exact⟨⟨2,by omega,rfl,hA⟩,by simp[intOf]⟩
  ·go_wp2
   go_loopw [5,34] (fun _ i wr=>∃k:Nat,k<=3/\i= .int .i64 k/\N5 w (XB k) wr) (fun _ i _=>3 - (intOf i).toNat)
   case atStart=>exact⟨0,by omega,rfl,hA⟩
   case round=>
    obtain⟨k,hk,rfl,hA⟩:=hrel;have:k=0\/k=1\/k=2\/k=3:=by omega
    rcases this with rfl|rfl|rfl|rfl
    ·obtain⟨w2,u2,hA⟩:=hA.upd (k:=(5,1,1)) ⟨rfl,rfl,rfl⟩ 1;obtain⟨w3,u3,hA⟩:=hA.upd (k:=(6,1,1)) ⟨rfl,rfl,rfl⟩ 1;simp only[jK] at u2 u3
     go_wp2
     rename_i a9;simp[ht3,Act.put];apply a9;clear a9
     go_wp2
     exact⟨⟨_,_,_,_,_,_,_,_,_,_,_,_,_,_,_,⟨1,by omega,rfl,hA⟩,rfl⟩,by simp[intOf]⟩
    ·obtain⟨w2,u2,hA⟩:=hA.upd (k:=(5,2,2)) ⟨rfl,rfl,rfl⟩ 2;obtain⟨w3,u3,hA⟩:=hA.upd (k:=(6,2,2)) ⟨rfl,rfl,rfl⟩ 2;simp only[jK] at u2 u3
     go_wp2
     rename_i a9;simp[ht3,Act.put];apply a9;clear a9
     go_wp2
     exact⟨⟨_,_,_,_,_,_,_,_,_,_,_,_,_,_,_,⟨2,by omega,rfl,hA⟩,rfl⟩,by simp[intOf]⟩
    ·obtain⟨w2,u2,hA⟩:=hA.upd (k:=(5,3,3)) ⟨rfl,rfl,rfl⟩ 3;obtain⟨w3,u3,hA⟩:=hA.upd (k:=(6,3,3)) ⟨rfl,rfl,rfl⟩ 3;simp only[jK] at u2 u3
     go_wp2
     rename_i a9;simp[ht3,Act.put];apply a9;clear a9
     go_wp2
     exact⟨⟨_,_,_,_,_,_,_,_,_,_,_,_,_,_,_,⟨3,by omega,rfl,hA⟩,rfl⟩,by simp[intOf]⟩
    ·go_wp2
     go_ret
     exact⟨rfl,hA⟩
def wF (op a b:Int):Int×Bool:=
 if op=10\/op=11 then(5,decide (a=b)) else if op=12\/op=13 then(5,decide (a=b/\a≠5)) else if op=14\/op=15 then(5,decide (a=b/\a=5)) else if op=17\/op=18 then(a,decide (a=b/\a≠5)) else(Ps (op,a,b),decide (Ps (op,a,b)≠0))
set_option maxHeartbeats 6400000 in
set_option maxRecDepth 100000 in
def cN0 (op a b:Int)(hk:GG (op,a,b))(w:World):Calls Tryz.prog 257 #[.int .i64 op,.int .i64 a,.int .i64 b] w fun e w'=>e= .returned (.tuple #[.int .i64 (wF op a b).1,.bool (wF op a b).2])/\Below w.heap.size w w':=by
 by_cases h1:op=10\/op=11
 ·have ht:wF op a b=(5,decide (a=b)):=by unfold wF;rw[aY h1]
  rw[ht];rcases h1 with rfl|rfl<;>
  ·go_enter Tryz.func257,Tryz.ntmps257
   go_wp2
   all_goals simp[bodyPost,results,Tryz.results257,go_sem]
   all_goals first |exact cZ _ _|(refine⟨?_,cZ _ _⟩;by_cases h0:a=b<;>simp[h0])
 have n10:op≠10:=fun e=>h1 (.inl e);have n11:op≠11:=fun e=>h1 (.inr e);by_cases h2:op=12\/op=13
 ·have ht:wF op a b=(5,decide (a=b/\a≠5)):=by unfold wF;rw[aK h1,aY h2]
  rw[ht];by_cases fW:a=b
  ·subst fW;by_cases h5:a=5
   ·subst h5;rcases h2 with rfl|rfl<;>
    ·go_enter Tryz.func257,Tryz.ntmps257
     go_wp2
     all_goals simp[bodyPost,results,Tryz.results257,go_sem]
     all_goals first |exact cZ _ _|(constructor<;>first |exact cZ _ _|simp_all)
   ·rcases h2 with rfl|rfl<;>
    ·go_enter Tryz.func257,Tryz.ntmps257
     go_wp2
     all_goals simp[bodyPost,results,Tryz.results257,go_sem]
     all_goals first |exact cZ _ _|(constructor<;>first |exact cZ _ _|simp_all)
  ·rcases h2 with rfl|rfl<;>
   ·go_enter Tryz.func257,Tryz.ntmps257
    go_wp2
    all_goals simp[bodyPost,results,Tryz.results257,go_sem]
    all_goals first |exact cZ _ _|(constructor<;>first |exact cZ _ _|simp_all)
 have n12:op≠12:=fun e=>h2 (.inl e);have n13:op≠13:=fun e=>h2 (.inr e);by_cases h3:op=14\/op=15
 ·have ht:wF op a b=(5,decide (a=b/\a=5)):=by unfold wF;rw[aK h1,aK h2,aY h3]
  rw[ht];by_cases fW:a=b
  ·subst fW;by_cases h5:a=5
   ·subst h5;rcases h3 with rfl|rfl<;>
    ·go_enter Tryz.func257,Tryz.ntmps257
     go_wp2
     all_goals simp[bodyPost,results,Tryz.results257,go_sem]
     all_goals first |exact cZ _ _|(constructor<;>first |exact cZ _ _|simp_all)
   ·rcases h3 with rfl|rfl<;>
    ·go_enter Tryz.func257,Tryz.ntmps257
     go_wp2
     all_goals simp[bodyPost,results,Tryz.results257,go_sem]
     all_goals first |exact cZ _ _|(constructor<;>first |exact cZ _ _|simp_all)
  ·rcases h3 with rfl|rfl<;>
   ·go_enter Tryz.func257,Tryz.ntmps257
    go_wp2
    all_goals simp[bodyPost,results,Tryz.results257,go_sem]
    all_goals first |exact cZ _ _|(constructor<;>first |exact cZ _ _|simp_all)
 have n14:op≠14:=fun e=>h3 (.inl e);have n15:op≠15:=fun e=>h3 (.inr e);by_cases h4:op=17\/op=18
 ·have ht:wF op a b=(a,decide (a=b/\a≠5)):=by unfold wF;rw[aK h1,aK h2,aK h3,aY h4]
  rw[ht];by_cases fW:a=b
  ·subst fW;by_cases h5:a=5
   ·subst h5;rcases h4 with rfl|rfl<;>
    ·go_enter Tryz.func257,Tryz.ntmps257
     go_wp2
     all_goals simp[bodyPost,results,Tryz.results257,go_sem]
     all_goals first |exact cZ _ _|(constructor<;>first |exact cZ _ _|simp_all)
   ·rcases h4 with rfl|rfl<;>
    ·go_enter Tryz.func257,Tryz.ntmps257
     go_wp2
     all_goals simp[bodyPost,results,Tryz.results257,go_sem]
     all_goals first |exact cZ _ _|(constructor<;>first |exact cZ _ _|simp_all)
  ·rcases h4 with rfl|rfl<;>
   ·go_enter Tryz.func257,Tryz.ntmps257
    go_wp2
    all_goals simp[bodyPost,results,Tryz.results257,go_sem]
    all_goals first |exact cZ _ _|(constructor<;>first |exact cZ _ _|simp_all)
 have n17:op≠17:=fun e=>h4 (.inl e);have n18:op≠18:=fun e=>h4 (.inr e);have ht:wF op a b=(Ps (op,a,b),decide (Ps (op,a,b)≠0)):=by unfold wF;rw[aK h1,aK h2,aK h3,aK h4]
 rw[ht];clear h1 h2 h3 h4 ht
 go_enter Tryz.func257,Tryz.ntmps257
 go_wp2_with (go_at_call 278;refine(fA6 _).mono ?_;rintro e w1 ⟨rfl,es,clock,L,hh,hP,hL,hB⟩;have pW:=dW3 hP hk _ _ hh;simp only[jK,hL] at pW)
 all_goals simp[bodyPost,results,Tryz.results257,go_sem]
 all_goals first |exact hB|(refine⟨?_,hB⟩;by_cases h0:Ps (op,a,b)=0<;>simp[h0])
end Go.Proofs.YtdlpbedneamebaaGreatDoor
