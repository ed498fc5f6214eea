/-
A part of the proof of the last text.
-/
import Derived.Test.YtdlpbedneamebaaGreatDoorTQ
import Derived.Test.YtdlpbedneamebaaGreatDoorRuns
import Derived.Shelf.Spec.SlicesInsert
set_option linter.all false
namespace Go.VM
open Go.RowKit
variable {P:Program}
def Jk (w:World)(dT sT ty elem:TypeId)(g o dLen dCap k:Nat)(a:Addr)(sLen sCap:Nat)(cur:Array Value)(t:TypeId)(cs:List Value)
  (hu:P.underlying dT=some (.slice elem))(hs:(P.info? elem).map (·.size)=some k)
  (hg:w.heap[g]? =some (.cells cur t (0,0)))(hn:cs.length=Nat.min sLen dLen*k)
  (qN:∀j v,cs[j]? =some v->w.cell? (a.add j)=some v)(Az:o+cs.length<=cur.size)(h1:∀v∈cs,v.oneCell'=true):
  (Builtin.copy_ #[dT,sT] ty #[.slice (some ⟨g,o,none⟩) dLen dCap,.slice (some a) sLen sCap]).run P w=
   .ok (goInt (Nat.min sLen dLen)) (w.setRow g (cur.toList.take o++cs++cur.toList.drop (o+cs.length)).toArray):=by
 have hl:=Nd (P:=P) w a cs qN;have aC:=UJ P g o t cs 0 cur w hg (by simpa using Az) h1;cases hq:P.info? elem with
 |none=>simp[hq] at hs
 |some i=>
  have hi:i.size=k:=by simpa[hq] using hs
  simp[Builtin.copy_,eE hu,Builtin.lenOf,Builtin.firstCells,sizeOf,typeInfo,hq,hi,<-hn,hl,aC]
end Go.VM
namespace Go.Proofs.YtdlpbedneamebaaGreatDoor
open Go.VM Go.RowKit Go.Lib
variable [cB]
def bF3 {α:Type}(cur xs news:List α)(a m l:Nat)(h1:cur.take (a+l)=xs)(h2:news.length=m)(h3:xs.length=a+l)(h4:a+m+l<=cur.length):
  ((((cur.take (a+m)++xs.drop a++cur.drop (a+m+l)).take a++news++(cur.take (a+m)++xs.drop a++cur.drop (a+m+l)).drop (a+m))).take (a+l+m))=xs.take a++news++xs.drop a:=by
 have e1:(cur.take (a+m)++xs.drop a++cur.drop (a+m+l)).take a=xs.take a:=by rw[AZ,H0 (by simp;omega),QK,<-h1,QK];congr 1;omega
 have e2:(cur.take (a+m)++xs.drop a++cur.drop (a+m+l)).drop (a+m)=xs.drop a++cur.drop (a+m+l):=by
  rw[AZ];have:(cur.take (a+m)).length=a+m:=by simp;omega
  rw[List.drop_append_of_le_length (by omega),EW (by omega),DY]
 rw[e1,e2,<-AZ];rw[H0 (by simp;omega),rM (by simp;omega)]
set_option maxHeartbeats 4000000 in
set_option maxRecDepth 100000 in
def eG0 (w:World)(aD g n cap i:Nat)(cur:Array Value)(xs news:List Value)(vb vc:Nat)(curV:Array Value)(tV:TypeId)(hi:i<n)(FT:n+1<=cap)(tB:cap<=maxLen)(sF:aD<=g)(hg:w.heap[g]? =some (.cells cur 122 (0,0)))(lG:cur.size=cap*2)(Bs:cur.toList.take (n*2)=xs)(kV:xs.length=n*2)
  (hl:news.length=2)(Cl:w.heap[vb]? =some (.cells curV tV (0,0)))(pU:∀(j:Nat) v,news[j]? =some v->curV[j]? =some v)(hvb:vb≠g)(Cv:∀v∈xs,v.oneCell'=true)(h1:∀v∈news,v.oneCell'=true):
  Calls Tryz.prog 97 #[.slice (some ⟨g,0,none⟩) n cap,.int .i64 i,.slice (some ⟨vb,0,none⟩) 1 vc] w fun e w'=>e= .returned (.slice (some ⟨g,0,none⟩) (n+1) cap)/\
   w'.ownsRow aD 122 2 (.slice (some ⟨g,0,none⟩) (n+1) cap) (n+1) (xs.take (i*2)++news++xs.drop (i*2))/\w.grownBy w' (some g):=by
 have t0:=Tryz.underlying0;have a0:=Tryz.isAgg0;have z0:=Tryz.sizeOf0;have v0:=Tryz.zeroValue0;have t3:=Tryz.underlying3;have a3:=Tryz.isAgg3;have z3:=Tryz.sizeOf3;have v3:=Tryz.zeroValue3;have t4:=Tryz.underlying4;have a4:=Tryz.isAgg4;have z4:=Tryz.sizeOf4;have v4:=Tryz.zeroValue4;have t119:=Tryz.underlying119;have a119:=Tryz.isAgg119;have z119:=Tryz.sizeOf119;have v119:=Tryz.zeroValue119;have z122:=Tryz.sizeOf122;have a122:=Tryz.isAgg122;have u0:=eE Tryz.underlying0;have u3:=eE Tryz.underlying3;have u4:=eE Tryz.underlying4;have u119:=eE Tryz.underlying119;have hcm':cap<=9223372036854775807:=by unfold maxLen at tB;omega
 have dA:(Tryz.prog.info? 122).map (·.size)=some 2:=by kernel_rfl
 have vC:¬((i:Int)=(n:Int)):=by omega
 have hshV:w.shape? vb=some (tV,curV.size):=by simp[World.shape?,Cl]
 have hshG:w.shape? g=some (122,cur.size):=by simp[World.shape?,hg]
 have hfa:∀j,w.frozen? ⟨vb,j,none⟩=false:=fun j=>by simp[World.frozen?,Cl]
 have Bz:cur.size≠0:=by rw[lG];omega
 have pT:∀o lb cb,(callFunc 145 #[.slice (some ⟨vb,0,none⟩) 1 vc,.slice (some ⟨g,o,none⟩) lb cb]).run Tryz.prog w= .ok (.value (.bool false)) w:=fun o lb cb=>by rw[run_callFunc_extern Tryz.func145 (by kernel_rfl) (by kernel_rfl) (by kernel_rfl) (e:=Extern.SlicesOverlaps.overlaps #[119,119] #[4]) (by kernel_rfl),Lib.run_overlaps_apart w 119 4 122 Tryz.underlying119 2 Tryz.sizeOf122 ⟨vb,0,none⟩ ⟨g,o,none⟩ 1 vc lb cb hvb tV 122 curV.size cur.size hshV hshG Bz (hfa 0) (hfa _)];rfl
 have mixed:Tryz.prog.follows .mixedOrders=true:=by kernel_rfl
 have cU:IntKind.i64.wrap ((i:Int)+1)=(i:Int)+1:=by rw[oV];omega
 have eZ:IntKind.i64.wrap ((n:Int)+1)=(n:Int)+1:=by rw[oV];omega
 have yF:(0:Int)<=(i:Int)+1:=by omega
 have sC:i<=n:=by omega
 have htn:((i:Int)+1).toNat=i+1:=by omega
 have htn2:((n:Int)+1).toNat=n+1:=by omega
 have EI:¬(cap=i+1):=by omega
 have hb3:(i:Int)<=(n:Int)+1:=by omega
 have hb4:¬(cap=i):=by omega
 obtain⟨nF,I2⟩:∃c:Array Value,c=(cur.toList.take ((i+1)*2)++xs.drop (i*2)++cur.toList.drop ((i+1)*2+(xs.drop (i*2)).length)).toArray:=⟨_,rfl⟩;have qQ:(xs.drop (i*2)).length=(n - i)*2:=by rw[oW,kV,Nat.sub_mul]
 have dG:∀(W:World),W.heap=w.heap->∀j v,cur[j]? =some v->W.cell? ⟨g,j,none⟩=some v:=fun W hW j v hj=>by simp[World.cell?,hW,hg,hj]
 have Cc:∀j v,xs[j]? =some v->cur[j]? =some v:=fun j v hj=>by rw[<-Bs,qE] at hj;split at hj;simpa using hj;cases hj
 have hcp1:∀ty dc sc,(Builtin.copy_ #[119,119] ty #[.slice (some ⟨g,(i+1)*2,none⟩) (n - i) dc,.slice (some ⟨g,i*2,none⟩) (n+1 - i) sc]).run Tryz.prog w.drew= .ok (goInt (Nat.min (n+1 - i) (n - i))) (w.drew.setRow g nF):=fun ty dc sc=>by rw[I2];refine Jk w.drew 119 119 ty 122 g ((i+1)*2) (n - i) dc 2 ⟨g,i*2,none⟩ (n+1 - i) sc cur 122 (xs.drop (i*2)) Tryz.underlying119 dA hg (by rw[qQ,show Nat.min (n+1 - i) (n - i)=n - i from by simp only[JO];split<;>omega]) (fun j v hj=> ?_) (by rw[qQ,lG];omega) (fun v hv=>Cv v (qX hv));rw[D4];exact dG w.drew rfl _ v (Cc _ v (by rwa[xD] at hj))
 have t8:nF.size=cap*2:=by rw[I2];simp[qQ,lG];omega
 have Rd:∀(W:World),W.heap=(w.drew.setRow g nF).heap->∀ty dc,(Builtin.copy_ #[119,119] ty #[.slice (some ⟨g,i*2,none⟩) (n+1 - i) dc,.slice (some ⟨vb,0,none⟩) 1 vc]).run Tryz.prog W= .ok (goInt (Nat.min 1 (n+1 - i))) (W.setRow g (nF.toList.take (i*2)++news++nF.toList.drop (i*2+news.length)).toArray):=fun W hW ty dc=>by refine Jk W 119 119 ty 122 g (i*2) (n+1 - i) dc 2 ⟨vb,0,none⟩ 1 vc nF 122 news Tryz.underlying119 dA (by rw[hW];exact yV w.drew g cur nF 122 _ hg) (by rw[hl,show Nat.min 1 (n+1 - i)=1 from by simp only[JO];split<;>omega]) (fun j v hj=> ?_) (by rw[hl,t8];omega) h1;rw[D4];have:(w.drew.setRow g nF).heap[vb]? =w.heap[vb]? :=yW w.drew g vb nF hvb;simp[World.cell?,hW,this,Cl,pU j v hj]
 obtain⟨mI,EF⟩:∃c:Array Value,c=(nF.toList.take (i*2)++news++nF.toList.drop (i*2+news.length)).toArray:=⟨_,rfl⟩;rw[<-EF] at Rd;have KG:=bF3 cur.toList xs news (i*2) 2 ((n - i)*2) (by rw[<-D1,show i+(n - i)=n from by omega];exact Bs) hl (by rw[kV,<-D1,show i+(n - i)=n from by omega]) (by simp[lG];omega);have e1:nF.toList=cur.toList.take (i*2+2)++xs.drop (i*2)++cur.toList.drop (i*2+2+(n - i)*2):=by rw[I2,qQ,D1,Nat.one_mul]
 have zI:∀W:World,W.heap=((w.drew.setRow g nF).setRow g mI).heap->W.os=w.os->W.tape=w.tape->W.output=w.output->W.ownsRow aD 122 2 (.slice (some ⟨g,0,none⟩) (n+1) cap) (n+1) (xs.take (i*2)++news++xs.drop (i*2))/\w.grownBy W (some g):=by intro W hW ho ht hp;refine⟨⟨?_,.inr ⟨g,cap,mI,rfl,sF,by rw[hW];exact yV _ g nF mI 122 _ (yV w.drew g cur nF 122 _ hg),FT,tB,?_,?_⟩⟩,⟨ho,ht,hp,by rw[hW];simp[World.setRow],fun k _ hk=> ?_⟩⟩;simp only[kH,gO,hl,qQ,kV];omega;rw[EF];simp only[rL,kH,gO,oW,tJ,hl,t8];omega;rw[show(n+1)*2=i*2+(n - i)*2+2 from by omega,<-KG,EF,hl,e1];rw[hW,yW _ g k _ (fun e=>hk (by rw[e])),yW _ g k _ (fun e=>hk (by rw[e]))];rfl
 clear I2 EF KG e1 t8 Cc dG
 go_enter Tryz.func97,Tryz.ntmps97
 go_wp2_with (simp only[pT])
 go_region_law_o (refine step_copy_runI rfl _ _ 119 119 rfl _ _ (by simp[Act.eval,Act.put]) (by simp[Act.eval,Act.put]) (hcp1 _ _ _) ?_)
 go_wp2_with (at_builtin;refine wpList_copy_runI _ rfl _ _ 119 119 rfl _ _ rfl rfl (Rd _ rfl _ _) ?_)
 go_ret
 exact⟨rfl,zI _ rfl rfl rfl rfl⟩
set_option maxHeartbeats 4000000 in
set_option maxRecDepth 100000 in
def eG1 (w:World)(aD g n cap i:Nat)(cur:Array Value)(xs news:List Value)(vb vc:Nat)(curV:Array Value)(tV:TypeId)(hi:i<n)(rF:n<=cap)(FT:cap<n+1)(MS:(n+1)*24<=140737488355328)(hg:w.heap[g]? =some (.cells cur 122 (0,0)))(lG:cur.size=cap*2)(Bs:cur.toList.take (n*2)=xs)(kV:xs.length=n*2)
  (hl:news.length=2)(Cl:w.heap[vb]? =some (.cells curV tV (0,0)))(pU:∀(j:Nat) v,news[j]? =some v->curV[j]? =some v)(Cv:∀v∈xs,v.oneCell'=true)(h1:∀v∈news,v.oneCell'=true)(F5:aD<=w.heap.size):
  Calls Tryz.prog 97 #[.slice (some ⟨g,0,none⟩) n cap,.int .i64 i,.slice (some ⟨vb,0,none⟩) 1 vc] w fun e w'=>∃G,e= .returned (.slice (some ⟨w.heap.size,0,none⟩) (n+1) G)/\
   w'.ownsRow aD 122 2 (.slice (some ⟨w.heap.size,0,none⟩) (n+1) G) (n+1) (xs.take (i*2)++news++xs.drop (i*2))/\w.grownBy w' (some g):=by
 have t0:=Tryz.underlying0;have a0:=Tryz.isAgg0;have z0:=Tryz.sizeOf0;have v0:=Tryz.zeroValue0;have t3:=Tryz.underlying3;have a3:=Tryz.isAgg3;have z3:=Tryz.sizeOf3;have v3:=Tryz.zeroValue3;have t4:=Tryz.underlying4;have a4:=Tryz.isAgg4;have z4:=Tryz.sizeOf4;have v4:=Tryz.zeroValue4;have t119:=Tryz.underlying119;have a119:=Tryz.isAgg119;have z119:=Tryz.sizeOf119;have v119:=Tryz.zeroValue119;have z122:=Tryz.sizeOf122;have a122:=Tryz.isAgg122;have u0:=eE Tryz.underlying0;have u3:=eE Tryz.underlying3;have u4:=eE Tryz.underlying4;have u119:=eE Tryz.underlying119;obtain⟨i0,wQ,z,hz,hs,F4,gP⟩:=bQ6;have dA:(Tryz.prog.info? 122).map (·.size)=some 2:=by kernel_rfl
 have vC:¬((i:Int)=(n:Int)):=by omega
 have hz3:(cap:Int)<(n:Int)+1:=by omega
 have mixed:Tryz.prog.follows .mixedOrders=true:=by kernel_rfl
 have cU:IntKind.i64.wrap ((i:Int)+1)=(i:Int)+1:=by rw[oV];omega
 have eZ:IntKind.i64.wrap ((n:Int)+1)=(n:Int)+1:=by rw[oV];omega
 have yF:(0:Int)<=(i:Int)+1:=by omega
 have sC:i<=n:=by omega
 have htn:((i:Int)+1).toNat=i+1:=by omega
 have hb3:(i:Int)<=(n:Int):=by omega
 have qQ:(xs.drop (i*2)).length=(n - i)*2:=by rw[oW,kV,Nat.sub_mul]
 have kW:(xs.take (i*2)).length=i*2:=by rw[gO,kV];omega
 have ED:g<w.heap.size:=(j6.1 hg).1;have hvl:vb<w.heap.size:=(j6.1 Cl).1;have Cc:∀(j:Nat) v,xs[j]? =some v->cur[j]? =some v:=fun j v hj=>by rw[<-Bs,qE] at hj;split at hj;simpa using hj;cases hj
 have kD:(n:Int)+1 - (i:Int)=((n+1 - i:Nat):Int):=by omega
 have Bw:i+(n+1 - i)=n+1:=by omega
 have hold:(Builtin.firstCells i0.size i (.slice (some ⟨g,0,none⟩) i cap)).run Tryz.prog w.drew= .ok (xs.take (i*2)).toArray w.drew:=by
  rw[hs];exact run_firstCells_some w.drew 2 i ⟨g,0,none⟩ i cap (xs.take (i*2)) (by rw[kW]) (fun j v hj=>by
   rw[D4];rw[qE] at hj;split at hj;simp[World.cell?,hg,Cc j v hj,show w.drew.heap=w.heap from rfl];cases hj)
 have hrz:∀ty,(Builtin.append_ #[119,3] ty #[.slice (some ⟨g,0,none⟩) i cap,.int .i64 ((n:Int)+1 - (i:Int))]).run Tryz.prog w=
   .ok (.slice (some ⟨w.heap.size,0,none⟩) (n+1) (grownCap w (n+1) cap 122)) (w.drew.alloc (.cells ((xs.take (i*2)).toArray++Builtin.zeroCells z.cells (n+1 - i)++Builtin.zeroCells z.cells (grownCap w (n+1) cap 122 - (n+1))) 122)):=fun ty=>by
  have h:=Lib.run_append_grow_zeros w 119 3 ty 122 i0 z .i64 .i64 Tryz.underlying119 Tryz.underlying3 wQ hz (some ⟨g,0,none⟩) i cap (xs.take (i*2)) hold (n+1 - i) (by omega) (by omega) (by omega) (by omega) (by rw[F4];omega) (by rw[F4,Bw];exact growslice_fits FT MS);rw[Bw] at h;rw[kD];exact h
 obtain⟨G,hG⟩:∃G,G=grownCap w (n+1) cap 122:=⟨_,rfl⟩;obtain⟨ROW,I5⟩:∃ROW:Array Value,ROW=(xs.take (i*2)).toArray++Builtin.zeroCells z.cells (n+1 - i)++Builtin.zeroCells z.cells (G - (n+1)):=⟨_,rfl⟩;rw[<-hG] at hrz;rw[<-I5] at hrz;have hGn:n+1<=G:=by rw[hG];exact grownCap_ge w _ _ _
 have hGm:G<=maxLen:=by rw[hG];exact grownCap_le_maxLen w (n+1) cap 122 (by unfold maxLen;omega)
 have hG63:G<=9223372036854775807:=by unfold maxLen at hGm;omega
 have hRl:ROW.size=G*2:=by rw[I5];simp only[XX,rL,kW,size_zeroCells,gP,<-D1];congr 1;omega
 have hRt:ROW.toList.take (i*2)=xs.take (i*2):=by rw[I5];simp only[Array.toList_append,AZ];rw[H0 (by rw[kW];exact dD _)];rw[rM (by rw[kW];exact dD _)]
 obtain⟨W1,BA⟩:∃W1,W1=w.drew.alloc (.cells ROW 122):=⟨_,rfl⟩;rw[<-BA] at hrz;have hN:W1.heap[w.heap.size]? =some (.cells ROW 122 (0,0)):=by rw[BA];exact LM w.drew _
 have hO:∀k,k<w.heap.size->W1.heap[k]? =w.heap[k]? :=fun k hk=>by rw[BA];exact UH w.drew _ hk
 obtain⟨R1,BB⟩:∃c:Array Value,c=(ROW.toList.take (i*2)++news++ROW.toList.drop (i*2+news.length)).toArray:=⟨_,rfl⟩;have MT:R1.size=G*2:=by rw[BB];simp[hl,hRl];omega
 have hcpA:∀(W:World),W.heap=W1.heap->∀ty dc,(Builtin.copy_ #[119,119] ty #[.slice (some ⟨w.heap.size,i*2,none⟩) (n+1 - i) dc,.slice (some ⟨vb,0,none⟩) 1 vc]).run Tryz.prog W= .ok (goInt (Nat.min 1 (n+1 - i))) (W.setRow w.heap.size R1):=fun W hW ty dc=>by rw[BB];refine Jk W 119 119 ty 122 w.heap.size (i*2) (n+1 - i) dc 2 ⟨vb,0,none⟩ 1 vc ROW 122 news Tryz.underlying119 dA (by rw[hW];exact hN) (by rw[hl,show Nat.min 1 (n+1 - i)=1 from by simp only[JO];split<;>omega]) (fun j v hj=> ?_) (by rw[hl,hRl];omega) h1;rw[D4];simp[World.cell?,hW,hO vb hvl,Cl,pU j v hj]
 have MP:∀(W:World),W.heap=(W1.setRow w.heap.size R1).heap->∀ty dc sc,(Builtin.copy_ #[119,119] ty #[.slice (some ⟨w.heap.size,(i+1)*2,none⟩) (n - i) dc,.slice (some ⟨g,i*2,none⟩) (n - i) sc]).run Tryz.prog W= .ok (goInt (Nat.min (n - i) (n - i))) (W.setRow w.heap.size (R1.toList.take ((i+1)*2)++xs.drop (i*2)++R1.toList.drop ((i+1)*2+(xs.drop (i*2)).length)).toArray):=fun W hW ty dc sc=>by refine Jk W 119 119 ty 122 w.heap.size ((i+1)*2) (n - i) dc 2 ⟨g,i*2,none⟩ (n - i) sc R1 122 (xs.drop (i*2)) Tryz.underlying119 dA (by rw[hW];exact yV W1 _ ROW R1 122 _ hN) (by rw[qQ];simp) (fun j v hj=> ?_) (by rw[qQ,MT];omega) (fun v hv=>Cv v (qX hv));rw[D4];have:(W1.setRow w.heap.size R1).heap[g]? =w.heap[g]? :=(yW W1 _ g R1 (by omega)).trans (hO g ED);rw[xD] at hj;simp[World.cell?,hW,this,hg,Cc _ v hj]
 have hGi:¬(G=i):=by omega
 have hGim:¬(G=i+1):=by omega
 have hci:¬(cap=i):=by omega
 have AN:((w.alloc (.cells ROW 122)).drew).heap=W1.heap:=by rw[BA];rfl
 have bZ:(((w.alloc (.cells ROW 122)).drew.setRow w.heap.size R1).drew).heap=(W1.setRow w.heap.size R1).heap:=by rw[BA];rfl
 obtain⟨R2,zK⟩:∃c:Array Value,c=(R1.toList.take ((i+1)*2)++xs.drop (i*2)++R1.toList.drop ((i+1)*2+(xs.drop (i*2)).length)).toArray:=⟨_,rfl⟩;rw[<-zK] at MP;have zI:∀W:World,W.heap=((W1.setRow w.heap.size R1).setRow w.heap.size R2).heap->W.os=w.os->W.tape=w.tape->W.output=w.output->W.ownsRow aD 122 2 (.slice (some ⟨w.heap.size,0,none⟩) (n+1) G) (n+1) (xs.take (i*2)++news++xs.drop (i*2))/\w.grownBy W (some g):=by
  intro W hW ho ht hp;refine⟨⟨?_,.inr ⟨w.heap.size,G,R2,rfl,F5,by rw[hW];exact yV _ _ R1 R2 122 _ (yV W1 _ ROW R1 122 _ hN),hGn,hGm,?_,?_⟩⟩,⟨ho,ht,hp,by rw[hW,BA];simp[World.setRow],fun k hk _=> ?_⟩⟩;simp only[kH,gO,hl,qQ,kV];omega;rw[zK];simp only[rL,kH,gO,oW,tJ,qQ,MT];omega;have h1:(R1.toList.take ((i+1)*2))=xs.take (i*2)++news:=by rw[BB];simp only[hRt];rw[H0 (by simp[kW,hl];omega),rM (by simp[kW,hl];omega)]
  rw[zK];simp only[h1];rw[H0 (by simp[kW,hl,qQ];omega),rM (by simp[kW,hl,qQ];omega)];rw[hW,yW _ _ k _ (by omega),yW _ _ k _ (by omega),hO k hk]
 subst BA;clear kD Bw hold I5 hG hRl zK BB hRt MT Cc hN hO
 go_enter Tryz.func97,Tryz.ntmps97
 go_wp2_with (first
  |(at_builtin;refine Lib.wpList_append_run _ rfl _ _ _ _ rfl _ _ rfl rfl _ _ (hrz _) ?_)
  |(at_builtin;refine wpList_copy_runI _ rfl _ _ 119 119 rfl _ _ rfl rfl (hcpA _ AN _ _) ?_)
  |(at_builtin;refine wpList_copy_runI _ rfl _ _ 119 119 rfl _ _ rfl rfl (MP _ rfl _ _ _) ?_))
 go_region_law_o (refine step_copy_runI rfl _ _ 119 119 rfl (.slice (some ⟨w.heap.size,(i+1)*2,none⟩) (n - i) (G - (i+1))) (.slice (some ⟨g,i*2,none⟩) (n - i) (cap - i)) (by simp[Act.eval,Act.put]) (by simp[Act.eval,Act.put]) (MP _ bZ 3 (G - (i+1)) (cap - i)) ?_)
 go_wp2
 go_ret
 exact⟨_,rfl,zI _ rfl rfl rfl rfl⟩
def eG2 (es xs bW:List V)(h:AD 122 es xs=some bW):JD Tryz.prog 97 122 true false es xs bW:=by
 unfold AD at h;split at h;rename_i i e' p;split at h;rename_i hc;obtain⟨rfl,wQ,hile,bT⟩:=hc;simp only[aH] at h;subst h;intro S w aD u vs us hS hG hB cA hk cK hr oD iD _;obtain⟨m,rfl⟩:∃m:Nat,i=m:=⟨i.toNat,by omega⟩;simp only[LD] at hile⊢;obtain⟨ui,uv,rfl⟩:∃ui uv,us=[ui,uv]:=by
  match us,iD with|[a,b],_=>exact⟨a,b,rfl⟩|[],h=>exact absurd h.1 (by simp)|[_],h=>exact absurd h.1 (by simp)|_::_::_::_,h=>exact absurd h.1 (by simp)
 have Ce:ui= .int .i64 m:=by have h1:aP S w ui (.i .i64 m):=iD.head;cases h1;rfl
 subst Ce;obtain⟨⟨dU,nN,qM,sA,tZ⟩,_,bM⟩:HT Tryz.prog S w aD u uv (.ow 122 [p]):=iD.tail.head;rw[K7] at cA hk nN qM;rcases nN.2 with⟨_,h0⟩|⟨g2,Fw,mI,rfl,hbg2,sD,Oy,hcm2,hcs2,IW⟩;cases h0;have hl:dU.length=2:=nN.1;have h1:=OS tZ sA;have Cv:=OS hr cK;have kV:vs.length=es.length*2:=cA.1;have pU:∀(j:Nat) v,dU[j]? =some v->mI[j]? =some v:=fun j v hj=>by rw[<-IW,qE] at hj;split at hj;simpa using hj;cases hj
 have fC:cL (es.take m++p::es.drop m)=(cL es).take (m*2)++cL [p]++(cL es).drop (m*2):=by rw[show es.take m++p::es.drop m=es.take m++[p]++es.drop m from by simp,BH,BH,I8 m hk,KR m hk]
 have kD:∀x∈es.take m++p::es.drop m,x.cells.length=Tryz.prog.cellsOf 122:=fun x hx=>by rw[K7];rcases iC.1 hx with hx|hx;exact hk x (qF hx);rcases eP.1 hx with rfl|hx;exact qM _ (dC ..);exact hk x (qX hx)
 have AK:∀x∈cL (es.take m++p::es.drop m),x.cell=true:=fun x hx=>by rw[fC] at hx;rcases iC.1 hx with hx|hx;rcases iC.1 hx with hx|hx;exact cK x (qF hx);exact sA x hx;exact cK x (qX hx)
 have hrr:aX S w (vs.take (m*2)++dU++vs.drop (m*2)) (cL (es.take m++p::es.drop m)):=by rw[fC];exact((hr.take _).append tZ).append (hr.drop _)
 have Av:(es.take m++p::es.drop m).length=es.length+1:=by simp;omega
 by_cases FZ:m=es.length;subst FZ;refine(bQ1 w aD u es.length vs dU g2 0 Fw cA hl (fun j v hj=>by simp[World.cell?,sD,pU j v hj]) h1 (by omega) hB).mono fun ex w' ⟨v',he,ho,hg,hb⟩=> ?_;refine⟨_,v',vs.take (es.length*2)++dU++vs.drop (es.length*2),he,hg,hb,?_,kD,AK,hrr,rfl⟩;rw[Av,K7,<-kV,D0,List.drop_length,A4];exact ho;rcases cA.2 with⟨_,h0⟩|⟨g,cap,cur,rfl,sF,hg,rF,tB,lG,Br⟩;omega;by_cases FT:es.length+1<=cap;refine(eG0 w aD g es.length cap m cur vs dU g2 Fw mI 122 (by omega) FT tB sF hg lG Br kV hl sD pU (fun e=>bM g2 rfl (by rw[e];rfl)) Cv h1).mono fun ex w' ⟨he,ho,Ay⟩=> ?_;refine⟨_,.slice (some ⟨g,0,none⟩) (es.length+1) cap,_,he,Ay,.inl rfl,?_,kD,AK,hrr,rfl⟩;rw[Av,K7];exact ho;refine(eG1 w aD g es.length cap m cur vs dU g2 Fw mI 122 (by omega) rF (by omega) (by omega) hg lG Br kV hl sD pU Cv h1 hB).mono fun ex w' ⟨G,he,ho,Ay⟩=> ?_;refine⟨_,_,_,he,Ay,.inr rfl,?_,kD,AK,hrr,rfl⟩;rw[Av,K7];exact ho;cases h;cases h
set_option maxHeartbeats 4000000 in
set_option maxRecDepth 100000 in
def eG3 (w:World)(aD g n cap i:Nat)(cur:Array Value)(xs news:List Value)(vb vc:Nat)(curV:Array Value)(tV:TypeId)(hi:i<n)(FT:n+1<=cap)(tB:cap<=maxLen)(sF:aD<=g)(hg:w.heap[g]? =some (.cells cur 61 (0,0)))(lG:cur.size=cap*3)(Bs:cur.toList.take (n*3)=xs)(kV:xs.length=n*3)
  (hl:news.length=3)(Cl:w.heap[vb]? =some (.cells curV tV (0,0)))(pU:∀(j:Nat) v,news[j]? =some v->curV[j]? =some v)(hvb:vb≠g)(Cv:∀v∈xs,v.oneCell'=true)(h1:∀v∈news,v.oneCell'=true):
  Calls Tryz.prog 150 #[.slice (some ⟨g,0,none⟩) n cap,.int .i64 i,.slice (some ⟨vb,0,none⟩) 1 vc] w fun e w'=>e= .returned (.slice (some ⟨g,0,none⟩) (n+1) cap)/\
   w'.ownsRow aD 61 3 (.slice (some ⟨g,0,none⟩) (n+1) cap) (n+1) (xs.take (i*3)++news++xs.drop (i*3))/\w.grownBy w' (some g):=by
 have t0:=Tryz.underlying0;have a0:=Tryz.isAgg0;have z0:=Tryz.sizeOf0;have v0:=Tryz.zeroValue0;have t3:=Tryz.underlying3;have a3:=Tryz.isAgg3;have z3:=Tryz.sizeOf3;have v3:=Tryz.zeroValue3;have t4:=Tryz.underlying4;have a4:=Tryz.isAgg4;have z4:=Tryz.sizeOf4;have v4:=Tryz.zeroValue4;have Up:=Tryz.underlying56;have a56:=Tryz.isAgg56;have z56:=Tryz.sizeOf56;have v56:=Tryz.zeroValue56;have z61:=Tryz.sizeOf61;have a61:=Tryz.isAgg61;have u0:=eE Tryz.underlying0;have u3:=eE Tryz.underlying3;have u4:=eE Tryz.underlying4;have u56:=eE Tryz.underlying56;have hcm':cap<=9223372036854775807:=by unfold maxLen at tB;omega
 have dA:(Tryz.prog.info? 61).map (·.size)=some 3:=by kernel_rfl
 have vC:¬((i:Int)=(n:Int)):=by omega
 have hshV:w.shape? vb=some (tV,curV.size):=by simp[World.shape?,Cl]
 have hshG:w.shape? g=some (61,cur.size):=by simp[World.shape?,hg]
 have hfa:∀j,w.frozen? ⟨vb,j,none⟩=false:=fun j=>by simp[World.frozen?,Cl]
 have Bz:cur.size≠0:=by rw[lG];omega
 have pT:∀o lb cb,(callFunc 186 #[.slice (some ⟨vb,0,none⟩) 1 vc,.slice (some ⟨g,o,none⟩) lb cb]).run Tryz.prog w= .ok (.value (.bool false)) w:=fun o lb cb=>by rw[run_callFunc_extern Tryz.func186 (by kernel_rfl) (by kernel_rfl) (by kernel_rfl) (e:=Extern.SlicesOverlaps.overlaps #[56,56] #[4]) (by kernel_rfl),Lib.run_overlaps_apart w 56 4 61 Tryz.underlying56 3 Tryz.sizeOf61 ⟨vb,0,none⟩ ⟨g,o,none⟩ 1 vc lb cb hvb tV 61 curV.size cur.size hshV hshG Bz (hfa 0) (hfa _)];rfl
 have mixed:Tryz.prog.follows .mixedOrders=true:=by kernel_rfl
 have cU:IntKind.i64.wrap ((i:Int)+1)=(i:Int)+1:=by rw[oV];omega
 have eZ:IntKind.i64.wrap ((n:Int)+1)=(n:Int)+1:=by rw[oV];omega
 have yF:(0:Int)<=(i:Int)+1:=by omega
 have sC:i<=n:=by omega
 have htn:((i:Int)+1).toNat=i+1:=by omega
 have htn2:((n:Int)+1).toNat=n+1:=by omega
 have EI:¬(cap=i+1):=by omega
 have hb3:(i:Int)<=(n:Int)+1:=by omega
 have hb4:¬(cap=i):=by omega
 obtain⟨nF,I2⟩:∃c:Array Value,c=(cur.toList.take ((i+1)*3)++xs.drop (i*3)++cur.toList.drop ((i+1)*3+(xs.drop (i*3)).length)).toArray:=⟨_,rfl⟩;have qQ:(xs.drop (i*3)).length=(n - i)*3:=by rw[oW,kV,Nat.sub_mul]
 have dG:∀(W:World),W.heap=w.heap->∀j v,cur[j]? =some v->W.cell? ⟨g,j,none⟩=some v:=fun W hW j v hj=>by simp[World.cell?,hW,hg,hj]
 have Cc:∀j v,xs[j]? =some v->cur[j]? =some v:=fun j v hj=>by rw[<-Bs,qE] at hj;split at hj;simpa using hj;cases hj
 have hcp1:∀ty dc sc,(Builtin.copy_ #[56,56] ty #[.slice (some ⟨g,(i+1)*3,none⟩) (n - i) dc,.slice (some ⟨g,i*3,none⟩) (n+1 - i) sc]).run Tryz.prog w.drew= .ok (goInt (Nat.min (n+1 - i) (n - i))) (w.drew.setRow g nF):=fun ty dc sc=>by rw[I2];refine Jk w.drew 56 56 ty 61 g ((i+1)*3) (n - i) dc 3 ⟨g,i*3,none⟩ (n+1 - i) sc cur 61 (xs.drop (i*3)) Tryz.underlying56 dA hg (by rw[qQ,show Nat.min (n+1 - i) (n - i)=n - i from by simp only[JO];split<;>omega]) (fun j v hj=> ?_) (by rw[qQ,lG];omega) (fun v hv=>Cv v (qX hv));rw[D4];exact dG w.drew rfl _ v (Cc _ v (by rwa[xD] at hj))
 have t8:nF.size=cap*3:=by rw[I2];simp[qQ,lG];omega
 have Rd:∀(W:World),W.heap=(w.drew.setRow g nF).heap->∀ty dc,(Builtin.copy_ #[56,56] ty #[.slice (some ⟨g,i*3,none⟩) (n+1 - i) dc,.slice (some ⟨vb,0,none⟩) 1 vc]).run Tryz.prog W= .ok (goInt (Nat.min 1 (n+1 - i))) (W.setRow g (nF.toList.take (i*3)++news++nF.toList.drop (i*3+news.length)).toArray):=fun W hW ty dc=>by refine Jk W 56 56 ty 61 g (i*3) (n+1 - i) dc 3 ⟨vb,0,none⟩ 1 vc nF 61 news Tryz.underlying56 dA (by rw[hW];exact yV w.drew g cur nF 61 _ hg) (by rw[hl,show Nat.min 1 (n+1 - i)=1 from by simp only[JO];split<;>omega]) (fun j v hj=> ?_) (by rw[hl,t8];omega) h1;rw[D4];have:(w.drew.setRow g nF).heap[vb]? =w.heap[vb]? :=yW w.drew g vb nF hvb;simp[World.cell?,hW,this,Cl,pU j v hj]
 obtain⟨mI,EF⟩:∃c:Array Value,c=(nF.toList.take (i*3)++news++nF.toList.drop (i*3+news.length)).toArray:=⟨_,rfl⟩;rw[<-EF] at Rd;have KG:=bF3 cur.toList xs news (i*3) 3 ((n - i)*3) (by rw[<-D1,show i+(n - i)=n from by omega];exact Bs) hl (by rw[kV,<-D1,show i+(n - i)=n from by omega]) (by simp[lG];omega);have e1:nF.toList=cur.toList.take (i*3+3)++xs.drop (i*3)++cur.toList.drop (i*3+3+(n - i)*3):=by rw[I2,qQ,D1,Nat.one_mul]
 have zI:∀W:World,W.heap=((w.drew.setRow g nF).setRow g mI).heap->W.os=w.os->W.tape=w.tape->W.output=w.output->W.ownsRow aD 61 3 (.slice (some ⟨g,0,none⟩) (n+1) cap) (n+1) (xs.take (i*3)++news++xs.drop (i*3))/\w.grownBy W (some g):=by intro W hW ho ht hp;refine⟨⟨?_,.inr ⟨g,cap,mI,rfl,sF,by rw[hW];exact yV _ g nF mI 61 _ (yV w.drew g cur nF 61 _ hg),FT,tB,?_,?_⟩⟩,⟨ho,ht,hp,by rw[hW];simp[World.setRow],fun k _ hk=> ?_⟩⟩;simp only[kH,gO,hl,qQ,kV];omega;rw[EF];simp only[rL,kH,gO,oW,tJ,hl,t8];omega;rw[show(n+1)*3=i*3+(n - i)*3+3 from by omega,<-KG,EF,hl,e1];rw[hW,yW _ g k _ (fun e=>hk (by rw[e])),yW _ g k _ (fun e=>hk (by rw[e]))];rfl
 clear I2 EF KG e1 t8 Cc dG
 go_enter Tryz.func150,Tryz.ntmps150
 go_wp2_with (simp only[pT])
 go_region_law_o (refine step_copy_runI rfl _ _ 56 56 rfl _ _ (by simp[Act.eval,Act.put]) (by simp[Act.eval,Act.put]) (hcp1 _ _ _) ?_)
 go_wp2_with (at_builtin;refine wpList_copy_runI _ rfl _ _ 56 56 rfl _ _ rfl rfl (Rd _ rfl _ _) ?_)
 go_ret
 exact⟨rfl,zI _ rfl rfl rfl rfl⟩
set_option maxHeartbeats 4000000 in
set_option maxRecDepth 100000 in
def eG4 (w:World)(aD g n cap i:Nat)(cur:Array Value)(xs news:List Value)(vb vc:Nat)(curV:Array Value)(tV:TypeId)(hi:i<n)(rF:n<=cap)(FT:cap<n+1)(MS:(n+1)*32<=140737488355328)(hg:w.heap[g]? =some (.cells cur 61 (0,0)))(lG:cur.size=cap*3)(Bs:cur.toList.take (n*3)=xs)(kV:xs.length=n*3)
  (hl:news.length=3)(Cl:w.heap[vb]? =some (.cells curV tV (0,0)))(pU:∀(j:Nat) v,news[j]? =some v->curV[j]? =some v)(Cv:∀v∈xs,v.oneCell'=true)(h1:∀v∈news,v.oneCell'=true)(F5:aD<=w.heap.size):
  Calls Tryz.prog 150 #[.slice (some ⟨g,0,none⟩) n cap,.int .i64 i,.slice (some ⟨vb,0,none⟩) 1 vc] w fun e w'=>∃G,e= .returned (.slice (some ⟨w.heap.size,0,none⟩) (n+1) G)/\
   w'.ownsRow aD 61 3 (.slice (some ⟨w.heap.size,0,none⟩) (n+1) G) (n+1) (xs.take (i*3)++news++xs.drop (i*3))/\w.grownBy w' (some g):=by
 have t0:=Tryz.underlying0;have a0:=Tryz.isAgg0;have z0:=Tryz.sizeOf0;have v0:=Tryz.zeroValue0;have t3:=Tryz.underlying3;have a3:=Tryz.isAgg3;have z3:=Tryz.sizeOf3;have v3:=Tryz.zeroValue3;have t4:=Tryz.underlying4;have a4:=Tryz.isAgg4;have z4:=Tryz.sizeOf4;have v4:=Tryz.zeroValue4;have Up:=Tryz.underlying56;have a56:=Tryz.isAgg56;have z56:=Tryz.sizeOf56;have v56:=Tryz.zeroValue56;have z61:=Tryz.sizeOf61;have a61:=Tryz.isAgg61;have u0:=eE Tryz.underlying0;have u3:=eE Tryz.underlying3;have u4:=eE Tryz.underlying4;have u56:=eE Tryz.underlying56;obtain⟨i0,wQ,z,hz,hs,F4,gP⟩:=bQ5;have dA:(Tryz.prog.info? 61).map (·.size)=some 3:=by kernel_rfl
 have vC:¬((i:Int)=(n:Int)):=by omega
 have hz3:(cap:Int)<(n:Int)+1:=by omega
 have mixed:Tryz.prog.follows .mixedOrders=true:=by kernel_rfl
 have cU:IntKind.i64.wrap ((i:Int)+1)=(i:Int)+1:=by rw[oV];omega
 have eZ:IntKind.i64.wrap ((n:Int)+1)=(n:Int)+1:=by rw[oV];omega
 have yF:(0:Int)<=(i:Int)+1:=by omega
 have sC:i<=n:=by omega
 have htn:((i:Int)+1).toNat=i+1:=by omega
 have hb3:(i:Int)<=(n:Int):=by omega
 have qQ:(xs.drop (i*3)).length=(n - i)*3:=by rw[oW,kV,Nat.sub_mul]
 have kW:(xs.take (i*3)).length=i*3:=by rw[gO,kV];omega
 have ED:g<w.heap.size:=(j6.1 hg).1;have hvl:vb<w.heap.size:=(j6.1 Cl).1;have Cc:∀(j:Nat) v,xs[j]? =some v->cur[j]? =some v:=fun j v hj=>by rw[<-Bs,qE] at hj;split at hj;simpa using hj;cases hj
 have kD:(n:Int)+1 - (i:Int)=((n+1 - i:Nat):Int):=by omega
 have Bw:i+(n+1 - i)=n+1:=by omega
 have hold:(Builtin.firstCells i0.size i (.slice (some ⟨g,0,none⟩) i cap)).run Tryz.prog w.drew= .ok (xs.take (i*3)).toArray w.drew:=by
  rw[hs];exact run_firstCells_some w.drew 3 i ⟨g,0,none⟩ i cap (xs.take (i*3)) (by rw[kW]) (fun j v hj=>by
   rw[D4];rw[qE] at hj;split at hj;simp[World.cell?,hg,Cc j v hj,show w.drew.heap=w.heap from rfl];cases hj)
 have hrz:∀ty,(Builtin.append_ #[56,3] ty #[.slice (some ⟨g,0,none⟩) i cap,.int .i64 ((n:Int)+1 - (i:Int))]).run Tryz.prog w=
   .ok (.slice (some ⟨w.heap.size,0,none⟩) (n+1) (grownCap w (n+1) cap 61)) (w.drew.alloc (.cells ((xs.take (i*3)).toArray++Builtin.zeroCells z.cells (n+1 - i)++Builtin.zeroCells z.cells (grownCap w (n+1) cap 61 - (n+1))) 61)):=fun ty=>by
  have h:=Lib.run_append_grow_zeros w 56 3 ty 61 i0 z .i64 .i64 Tryz.underlying56 Tryz.underlying3 wQ hz (some ⟨g,0,none⟩) i cap (xs.take (i*3)) hold (n+1 - i) (by omega) (by omega) (by omega) (by omega) (by rw[F4];omega) (by rw[F4,Bw];exact growslice_fits FT MS);rw[Bw] at h;rw[kD];exact h
 obtain⟨G,hG⟩:∃G,G=grownCap w (n+1) cap 61:=⟨_,rfl⟩;obtain⟨ROW,I5⟩:∃ROW:Array Value,ROW=(xs.take (i*3)).toArray++Builtin.zeroCells z.cells (n+1 - i)++Builtin.zeroCells z.cells (G - (n+1)):=⟨_,rfl⟩;rw[<-hG] at hrz;rw[<-I5] at hrz;have hGn:n+1<=G:=by rw[hG];exact grownCap_ge w _ _ _
 have hGm:G<=maxLen:=by rw[hG];exact grownCap_le_maxLen w (n+1) cap 61 (by unfold maxLen;omega)
 have hG63:G<=9223372036854775807:=by unfold maxLen at hGm;omega
 have hRl:ROW.size=G*3:=by rw[I5];simp only[XX,rL,kW,size_zeroCells,gP,<-D1];congr 1;omega
 have hRt:ROW.toList.take (i*3)=xs.take (i*3):=by rw[I5];simp only[Array.toList_append,AZ];rw[H0 (by rw[kW];exact dD _)];rw[rM (by rw[kW];exact dD _)]
 obtain⟨W1,BA⟩:∃W1,W1=w.drew.alloc (.cells ROW 61):=⟨_,rfl⟩;rw[<-BA] at hrz;have hN:W1.heap[w.heap.size]? =some (.cells ROW 61 (0,0)):=by rw[BA];exact LM w.drew _
 have hO:∀k,k<w.heap.size->W1.heap[k]? =w.heap[k]? :=fun k hk=>by rw[BA];exact UH w.drew _ hk
 obtain⟨R1,BB⟩:∃c:Array Value,c=(ROW.toList.take (i*3)++news++ROW.toList.drop (i*3+news.length)).toArray:=⟨_,rfl⟩;have MT:R1.size=G*3:=by rw[BB];simp[hl,hRl];omega
 have hcpA:∀(W:World),W.heap=W1.heap->∀ty dc,(Builtin.copy_ #[56,56] ty #[.slice (some ⟨w.heap.size,i*3,none⟩) (n+1 - i) dc,.slice (some ⟨vb,0,none⟩) 1 vc]).run Tryz.prog W= .ok (goInt (Nat.min 1 (n+1 - i))) (W.setRow w.heap.size R1):=fun W hW ty dc=>by rw[BB];refine Jk W 56 56 ty 61 w.heap.size (i*3) (n+1 - i) dc 3 ⟨vb,0,none⟩ 1 vc ROW 61 news Tryz.underlying56 dA (by rw[hW];exact hN) (by rw[hl,show Nat.min 1 (n+1 - i)=1 from by simp only[JO];split<;>omega]) (fun j v hj=> ?_) (by rw[hl,hRl];omega) h1;rw[D4];simp[World.cell?,hW,hO vb hvl,Cl,pU j v hj]
 have MP:∀(W:World),W.heap=(W1.setRow w.heap.size R1).heap->∀ty dc sc,(Builtin.copy_ #[56,56] ty #[.slice (some ⟨w.heap.size,(i+1)*3,none⟩) (n - i) dc,.slice (some ⟨g,i*3,none⟩) (n - i) sc]).run Tryz.prog W= .ok (goInt (Nat.min (n - i) (n - i))) (W.setRow w.heap.size (R1.toList.take ((i+1)*3)++xs.drop (i*3)++R1.toList.drop ((i+1)*3+(xs.drop (i*3)).length)).toArray):=fun W hW ty dc sc=>by refine Jk W 56 56 ty 61 w.heap.size ((i+1)*3) (n - i) dc 3 ⟨g,i*3,none⟩ (n - i) sc R1 61 (xs.drop (i*3)) Tryz.underlying56 dA (by rw[hW];exact yV W1 _ ROW R1 61 _ hN) (by rw[qQ];simp) (fun j v hj=> ?_) (by rw[qQ,MT];omega) (fun v hv=>Cv v (qX hv));rw[D4];have:(W1.setRow w.heap.size R1).heap[g]? =w.heap[g]? :=(yW W1 _ g R1 (by omega)).trans (hO g ED);rw[xD] at hj;simp[World.cell?,hW,this,hg,Cc _ v hj]
 have hGi:¬(G=i):=by omega
 have hGim:¬(G=i+1):=by omega
 have hci:¬(cap=i):=by omega
 have AN:((w.alloc (.cells ROW 61)).drew).heap=W1.heap:=by rw[BA];rfl
 have bZ:(((w.alloc (.cells ROW 61)).drew.setRow w.heap.size R1).drew).heap=(W1.setRow w.heap.size R1).heap:=by rw[BA];rfl
 obtain⟨R2,zK⟩:∃c:Array Value,c=(R1.toList.take ((i+1)*3)++xs.drop (i*3)++R1.toList.drop ((i+1)*3+(xs.drop (i*3)).length)).toArray:=⟨_,rfl⟩;rw[<-zK] at MP;have zI:∀W:World,W.heap=((W1.setRow w.heap.size R1).setRow w.heap.size R2).heap->W.os=w.os->W.tape=w.tape->W.output=w.output->W.ownsRow aD 61 3 (.slice (some ⟨w.heap.size,0,none⟩) (n+1) G) (n+1) (xs.take (i*3)++news++xs.drop (i*3))/\w.grownBy W (some g):=by
  intro W hW ho ht hp;refine⟨⟨?_,.inr ⟨w.heap.size,G,R2,rfl,F5,by rw[hW];exact yV _ _ R1 R2 61 _ (yV W1 _ ROW R1 61 _ hN),hGn,hGm,?_,?_⟩⟩,⟨ho,ht,hp,by rw[hW,BA];simp[World.setRow],fun k hk _=> ?_⟩⟩;simp only[kH,gO,hl,qQ,kV];omega;rw[zK];simp only[rL,kH,gO,oW,tJ,qQ,MT];omega;have h1:(R1.toList.take ((i+1)*3))=xs.take (i*3)++news:=by rw[BB];simp only[hRt];rw[H0 (by simp[kW,hl];omega),rM (by simp[kW,hl];omega)]
  rw[zK];simp only[h1];rw[H0 (by simp[kW,hl,qQ];omega),rM (by simp[kW,hl,qQ];omega)];rw[hW,yW _ _ k _ (by omega),yW _ _ k _ (by omega),hO k hk]
 subst BA;clear kD Bw hold I5 hG hRl zK BB hRt MT Cc hN hO
 go_enter Tryz.func150,Tryz.ntmps150
 go_wp2_with (first
  |(at_builtin;refine Lib.wpList_append_run _ rfl _ _ _ _ rfl _ _ rfl rfl _ _ (hrz _) ?_)
  |(at_builtin;refine wpList_copy_runI _ rfl _ _ 56 56 rfl _ _ rfl rfl (hcpA _ AN _ _) ?_)
  |(at_builtin;refine wpList_copy_runI _ rfl _ _ 56 56 rfl _ _ rfl rfl (MP _ rfl _ _ _) ?_))
 go_region_law_o (refine step_copy_runI rfl _ _ 56 56 rfl (.slice (some ⟨w.heap.size,(i+1)*3,none⟩) (n - i) (G - (i+1))) (.slice (some ⟨g,i*3,none⟩) (n - i) (cap - i)) (by simp[Act.eval,Act.put]) (by simp[Act.eval,Act.put]) (MP _ bZ 3 (G - (i+1)) (cap - i)) ?_)
 go_wp2
 go_ret
 exact⟨_,rfl,zI _ rfl rfl rfl rfl⟩
def bQ3 (es xs bW:List V)(h:AD 61 es xs=some bW):JD Tryz.prog 150 61 true false es xs bW:=by
 unfold AD at h;split at h;rename_i i e' p;split at h;rename_i hc;obtain⟨rfl,wQ,hile,bT⟩:=hc;simp only[aH] at h;subst h;intro S w aD u vs us hS hG hB cA hk cK hr oD iD _;obtain⟨m,rfl⟩:∃m:Nat,i=m:=⟨i.toNat,by omega⟩;simp only[LD] at hile⊢;obtain⟨ui,uv,rfl⟩:∃ui uv,us=[ui,uv]:=by
  match us,iD with|[a,b],_=>exact⟨a,b,rfl⟩|[],h=>exact absurd h.1 (by simp)|[_],h=>exact absurd h.1 (by simp)|_::_::_::_,h=>exact absurd h.1 (by simp)
 have Ce:ui= .int .i64 m:=by have h1:aP S w ui (.i .i64 m):=iD.head;cases h1;rfl
 subst Ce;obtain⟨⟨dU,nN,qM,sA,tZ⟩,_,bM⟩:HT Tryz.prog S w aD u uv (.ow 61 [p]):=iD.tail.head;rw[Fu] at cA hk nN qM;rcases nN.2 with⟨_,h0⟩|⟨g2,Fw,mI,rfl,hbg2,sD,Oy,hcm2,hcs2,IW⟩;cases h0;have hl:dU.length=3:=nN.1;have h1:=OS tZ sA;have Cv:=OS hr cK;have kV:vs.length=es.length*3:=cA.1;have pU:∀(j:Nat) v,dU[j]? =some v->mI[j]? =some v:=fun j v hj=>by rw[<-IW,qE] at hj;split at hj;simpa using hj;cases hj
 have fC:cL (es.take m++p::es.drop m)=(cL es).take (m*3)++cL [p]++(cL es).drop (m*3):=by rw[show es.take m++p::es.drop m=es.take m++[p]++es.drop m from by simp,BH,BH,I8 m hk,KR m hk]
 have kD:∀x∈es.take m++p::es.drop m,x.cells.length=Tryz.prog.cellsOf 61:=fun x hx=>by rw[Fu];rcases iC.1 hx with hx|hx;exact hk x (qF hx);rcases eP.1 hx with rfl|hx;exact qM _ (dC ..);exact hk x (qX hx)
 have AK:∀x∈cL (es.take m++p::es.drop m),x.cell=true:=fun x hx=>by rw[fC] at hx;rcases iC.1 hx with hx|hx;rcases iC.1 hx with hx|hx;exact cK x (qF hx);exact sA x hx;exact cK x (qX hx)
 have hrr:aX S w (vs.take (m*3)++dU++vs.drop (m*3)) (cL (es.take m++p::es.drop m)):=by rw[fC];exact((hr.take _).append tZ).append (hr.drop _)
 have Av:(es.take m++p::es.drop m).length=es.length+1:=by simp;omega
 by_cases FZ:m=es.length;subst FZ;refine(bQ2 w aD u es.length vs dU g2 0 Fw cA hl (fun j v hj=>by simp[World.cell?,sD,pU j v hj]) h1 (by omega) hB).mono fun ex w' ⟨v',he,ho,hg,hb⟩=> ?_;refine⟨_,v',vs.take (es.length*3)++dU++vs.drop (es.length*3),he,hg,hb,?_,kD,AK,hrr,rfl⟩;rw[Av,Fu,<-kV,D0,List.drop_length,A4];exact ho;rcases cA.2 with⟨_,h0⟩|⟨g,cap,cur,rfl,sF,hg,rF,tB,lG,Br⟩;omega;by_cases FT:es.length+1<=cap;refine(eG3 w aD g es.length cap m cur vs dU g2 Fw mI 61 (by omega) FT tB sF hg lG Br kV hl sD pU (fun e=>bM g2 rfl (by rw[e];rfl)) Cv h1).mono fun ex w' ⟨he,ho,Ay⟩=> ?_;refine⟨_,.slice (some ⟨g,0,none⟩) (es.length+1) cap,_,he,Ay,.inl rfl,?_,kD,AK,hrr,rfl⟩;rw[Av,Fu];exact ho;refine(eG4 w aD g es.length cap m cur vs dU g2 Fw mI 61 (by omega) rF (by omega) (by omega) hg lG Br kV hl sD pU Cv h1 hB).mono fun ex w' ⟨G,he,ho,Ay⟩=> ?_;refine⟨_,_,_,he,Ay,.inr rfl,?_,kD,AK,hrr,rfl⟩;rw[Av,Fu];exact ho;cases h;cases h
end Go.Proofs.YtdlpbedneamebaaGreatDoor
