/-
Plain laws and walks: part of the proof of the last text.
-/
import Derived.Test.YtdlpbedneamebaaGreatDoorCode
import Derived.Test.YtdlpbedneamebaaGreatDoorVJ
import Derived.Test.YtdlpbedneamebaaGreatDoorTL
import Derived.RangeFuncRecord
set_option linter.all false
namespace Go.Proofs.YtdlpbedneamebaaGreatDoor
open Go.VM Go.RowKit
def Et (n:Nat):Code->Option (List Oper)
 | .region i aJ _=>if i=n then some aJ.toList else none| .seq a b=>(Et n a).or (Et n b)| .cond _ a b=>(Et n a).or (Et n b)| .block _ a=>Et n a| .loop a=>Et n a| .rangeFunc _ _ a b=>(Et n a).or (Et n b)|_=>none
noncomputable def Gp:List Oper:=((Tryz.f190.body).bind (Et 12)).getD []
abbrev TY:List (List Nat):=[[],[],[0,1],[2],[],[],[5],[4,6],[7],[3,8],[0,1,0,1,2,3,4,5,6,7,8,9],[10,9,0,1,2,3,4,5,6,7,8,9]]
abbrev bI2:List Op:=[.load 39 (.tmp 9),.move (.tmp 12),.indexAddr 39 (.tmp 64) (.tmp 65),.load 3 (.tmp 66),.load 39 (.tmp 9),.move (.tmp 12),.binOp .sub 3 (.tmp 69) (.const (.int .i64 1)) 3,.indexAddr 39 (.tmp 68) (.tmp 70),.load 3 (.tmp 71),.binOp .add 3 (.tmp 67) (.tmp 72) 3,.indexAddr 39 (.tmp 64) (.tmp 65),.store 3 (.tmp 74) (.tmp 73)]
def fC3:Gp.map eD=TY:=by kernel_rfl
def eI0:Gp.map (·.guard)=List.replicate 12 none:=by kernel_rfl
def C' (i:Nat):Option Nat:=if i<11 then some (64+i) else none
def eR7:Gp.map (·.dst)=(List.range 12).map C':=by kernel_rfl
def dN3:Gp.map (·.op)=bI2:=by kernel_rfl
section
variable {P:Program} {w:World} {ρ:Operand->Value} {o:Oper}
def VC {x:Operand}(ho:o.op= .move x):(execOp ρ o).run P w= .ok (.value (ρ x)) w:=by simp only[execOp,ho,eU]
def dX6 {t:TypeId}{d:TypeDesc}(hd:P.underlying t=some d)(ha:eJ P t=false){ad:Addr}{u:Value}(h:w.cell? ad=some u):(Instr.loadAt t (.pointer (some ad))).run P w= .ok u w:=by simp only[Instr.loadAt,Instr.sureAddr,dX,eU,dQ,loadVar,tH hd,ha,qW,mW];rw[run_load];simp[h]
def Lo {t:TypeId}{dd:TypeDesc}(hd:P.underlying t=some dd)(ha:eJ P t=false){x:Operand}{ad:Addr}{u:Value}(ho:o.op= .load t x)(hx:ρ x= .pointer (some ad))(hc:w.cell? ad=some u):(execOp ρ o).run P w= .ok (.value u) w:=by simp only[execOp,ho,hx,dX,dX6 hd ha hc,dQ,eU]
def Y6 {t e:TypeId}(hu:P.underlying t=some (.slice e)){d:TypeDesc}(he:P.underlying e=some d){x y:Operand}{ad:Addr}{len c k:Nat}(ho:o.op= .indexAddr t x y)(hx:ρ x= .slice (some ad) len c)(hy:ρ y= .int .i64 k)(hk:k<len):
  (execOp ρ o).run P w= .ok (.value (.pointer (some (ad.add (k*P.cellsOf e))))) w:=by
 have h:(Instr.indexAt t (.slice (some ad) len c) (.int .i64 k)).run P w= .ok (.pointer (some (ad.add (k*P.cellsOf e)))) w:=by simp[Instr.indexAt,asIntOf,eE hu,hk,H' he]
 simp only[execOp,ho,hx,hy,dX,h,dQ,eU]
def dF4 {x:Operand}{k:Nat}(hk:k<=4000)(ho:o.op= .binOp .sub 3 x (.const (.int .i64 1)) 3)(hx:ρ x= .int .i64 ((k+1:Nat):Int))(hc:ρ (.const (.int .i64 1))= .int .i64 1):(execOp ρ o).run Tryz.prog w= .ok (.value (.int .i64 (k:Int))) w:=by simp[execOp,ho,hx,hc,go_sem];rw[oV];omega
def bD5 {x y:Operand}{m n:Int}(ho:o.op= .binOp .add 3 x y 3)(hx:ρ x= .int .i64 m)(hy:ρ y= .int .i64 n):(execOp ρ o).run Tryz.prog w= .ok (.value (.int .i64 (wrap64 (m+n)))) w:=by simp[execOp,ho,hx,hy,go_sem];rw[oV];unfold wrap64;rfl
def dF5 {x y:Operand}{ad:Addr}{m n:Int}(ho:o.op= .store 3 x y)(hx:ρ x= .pointer (some ad))(hy:ρ y= .int .i64 n)(hc:w.cell? ad=some (.int .i64 m))(hf:w.frozen? ad=false):(execOp ρ o).run Tryz.prog w= .ok .skip (w.setCell ad (.int .i64 n)):=by simp[execOp,ho,hx,hy,go_sem,hc,hf]
end
def LP (N k:Nat)(K:Nat)(y1 y0:Int):Nat->Value
 |0|4=> .slice (some ⟨N,0,none⟩) K K|1|5=> .int .i64 ((k+1:Nat):Int)|2|10=> .pointer (some ⟨N,k+1,none⟩)|3=> .int .i64 y1|6=> .int .i64 (k:Int)|7=> .pointer (some ⟨N,k,none⟩)|8=> .int .i64 y0|9=> .int .i64 (wrap64 (y1+y0))|_=>undef
def dI1 {a0:Act}{w:World}{N M k K:Nat}{y1 y0:Int}(hs:a0.tmps.size=76)(t9:tm a0 9=some (.pointer (some ⟨M,0,none⟩)))(YJ:tm a0 12=some (.int .i64 ((k:Int)+1)))(hk:k+1<K)(hK:K<=4000)
  (hM:w.cell? ⟨M,0,none⟩=some (.slice (some ⟨N,0,none⟩) K K))(h1:w.cell? ⟨N,k+1,none⟩=some (.int .i64 y1))(h0:w.cell? ⟨N,k,none⟩=some (.int .i64 y0))(hf:w.frozen? ⟨N,k+1,none⟩=false)
  {aJ:Array Oper}(uA:aJ.toList=Gp){Q:Exit->Act->World->Prop}
  (hQ:Q .normal (((((((((((a0.put (some 64) (.slice (some ⟨N,0,none⟩) K K)).put (some 65) (.int .i64 ((k:Int)+1))).put (some 66) (.pointer (some ⟨N,k+1,none⟩))).put (some 67) (.int .i64 y1)).put (some 68) (.slice (some ⟨N,0,none⟩) K K)).put (some 69) (.int .i64 ((k:Int)+1))).put (some 70) (.int .i64 (k:Int))).put (some 71) (.pointer (some ⟨N,k,none⟩))).put (some 72) (.int .i64 y0)).put (some 73) (.int .i64 (wrap64 (y1+y0)))).put (some 74) (.pointer (some ⟨N,k+1,none⟩))) (w.drew.setCell ⟨N,k+1,none⟩ (.int .i64 (wrap64 (y1+y0))))):(Code.region 12 aJ true).wp Tryz.prog Q a0 w:=by
 have Oz:Gp.length=12:=by kernel_rfl
 have dA:aJ.size=12:=by rw[<-tJ,uA,Oz]
 have I0:∀i j n,C' i=some n->C' j=some n->i=j:=fun i j n h h'=>by unfold C' at h h';split at h<;>split at h'<;>simp at h h';omega
 have bE:∀i n,C' i=some n->n<a0.tmps.size:=fun i n h=>by unfold C' at h;split at h<;>simp at h;omega
 have fQ:∀(i:Nat) op,Gp[i]? =some op->i<12/\op.op=bI2.getD i default/\op.dst=C' i/\op.guard=none/\eD op=TY.getD i []:=fun i op hi=>by
  have FX:i<12:=by rw[<-Oz];exact(fE.1 hi).1
  have e1:=jV (fun l=>l[i]?) dN3;have e2:=jV (fun l=>l[i]?) eR7;have e3:=jV (fun l=>l[i]?) eI0;have e4:=jV (fun l=>l[i]?) fC3;simp only[kG,hi,eB] at e1 e2 e3 e4;refine⟨FX,?_,?_,?_,?_⟩;rw[EX,<-e1];rfl;rw[Ts FX] at e2;simpa using e2;rw[X4,aY FX] at e3;exact uR e3;rw[EX,<-e4];rfl
 refine Yb (by kernel_rfl) (ds:=C') (val:=LP N k K y1 y0) (fun l w'=>(bU l 11->w'=w.drew.setCell ⟨N,k+1,none⟩ (.int .i64 (wrap64 (y1+y0))))/\(¬bU l 11->w'=w.drew)) I0 bE (fun i op hi=> ?_) (fun i op hi l hl bM fV cK a w' hT hW=> ?_) ?_ ?_ (fun l a' w' eG hT hW=> ?_);rw[uA] at hi;exact⟨(fQ i op hi).2.2.1,(fQ i op hi).2.2.2.1⟩;rw[uA] at hi cK hl;obtain⟨FX,ho,hd,hg,ha⟩:=fQ i op hi;rw[ha] at fV;have iJ:i<l.size:=by omega
 have hn11:¬bU l 11:=fun uG=>by
  by_cases he:i=11;subst he;exact bM uG;obtain⟨o11,ho11⟩:∃o11,Gp[11]? =some o11:=⟨_,eI (by omega)⟩;have:=cK 11 o11 ho11 uG i (by
   rw[(fQ 11 o11 ho11).2.2.2.2];have hi11:i<11:=by omega
   revert hi11;exact(by decide:∀i<11,i∈TY.getD 11 []) i)
  exact bM this
 obtain rfl:=hW.2 hn11;have ev:∀j,j<11->bU l j->a.eval (.tmp (64+j))=LP N k K y1 y0 j:=fun j hj hx=>eW (hT.2.2.1 j _ hx (by simp[C',hj]));have e9:a.eval (.tmp 9)= .pointer (some ⟨M,0,none⟩):=eW ((hT.2.2.2 9 (fun i _ h=>by unfold C' at h;split at h<;>simp at h;omega)).trans t9);have e12:a.eval (.tmp 12)= .int .i64 ((k+1:Nat):Int):=eW ((hT.2.2.2 12 (fun i _ h=>by unfold C' at h;split at h<;>simp at h;omega)).trans (YJ.trans (by simp)));have rW:∀u,u=LP N k K y1 y0 i->i≠11->(execOp a.eval op).run Tryz.prog w.drew= .ok (.value u) w.drew->f8 Tryz.prog ((execOp a.eval op).run Tryz.prog w.drew) fun u w1=>(C' i=none\/u=LP N k K y1 y0 i)/\((bU (l.setIfInBounds i true) 11->w1=w.drew.setCell ⟨N,k+1,none⟩ (.int .i64 (wrap64 (y1+y0))))/\(¬bU (l.setIfInBounds i true) 11->w1=w.drew)):=fun u hu hi11 hr=>by rw[hr];exact⟨.inr hu,fun hx=>absurd hx fun hx=>((kP iJ 11).1 hx).elim (fun e=>hi11 e.symm) hn11,fun _=>rfl⟩
 have c3:Tryz.prog.cellsOf 3=1:=by kernel_rfl
 match i,FX with
 |0,_=>exact rW _ rfl (by decide) (Lo Tryz.underlying39 (by kernel_rfl) ho e9 hM)|1,_=>exact rW _ e12 (by decide) (VC ho)|2,_=>exact rW _ (by rw[c3];simp[LP,Addr.add]) (by decide) (Y6 Tryz.underlying39 Tryz.underlying3 ho (ev 0 (by decide) (fV 0 (by decide))) (ev 1 (by decide) (fV 1 (by decide))) hk)|3,_=>exact rW _ rfl (by decide) (Lo Tryz.underlying3 (by kernel_rfl) ho (ev 2 (by decide) (fV 2 (by decide))) h1)|4,_=>exact rW _ rfl (by decide) (Lo Tryz.underlying39 (by kernel_rfl) ho e9 hM)|5,_=>exact rW _ e12 (by decide) (VC ho)|6,_=>exact rW (.int .i64 (k:Int)) rfl (by decide) (dF4 (by omega) ho (ev 5 (by decide) (fV 5 (by decide))) rfl)|7,_=>exact rW _ (by rw[c3];simp[LP,Addr.add];omega) (by decide) (Y6 Tryz.underlying39 Tryz.underlying3 ho (ev 4 (by decide) (fV 4 (by decide))) (ev 6 (by decide) (fV 6 (by decide))) (by omega))|8,_=>exact rW _ rfl (by decide) (Lo Tryz.underlying3 (by kernel_rfl) ho (ev 7 (by decide) (fV 7 (by decide))) h0)|9,_=>exact rW (.int .i64 (wrap64 (y1+y0))) rfl (by decide) (bD5 ho (ev 3 (by decide) (fV 3 (by decide))) (ev 8 (by decide) (fV 8 (by decide))))|10,_=>exact rW _ (by rw[c3];simp[LP,Addr.add]) (by decide) (Y6 Tryz.underlying39 Tryz.underlying3 ho (ev 0 (by decide) (fV 0 (by decide))) (ev 1 (by decide) (fV 1 (by decide))) hk)
 |11,_=>
  have h9:=ev 9 (by decide) (fV 9 (by decide));have oT:=ev 10 (by decide) (fV 10 (by decide));have hr:(execOp a.eval op).run Tryz.prog w.drew= .ok .skip (w.drew.setCell ⟨N,k+1,none⟩ (.int .i64 (wrap64 (y1+y0)))):=by exact dF5 ho oT h9 h1 hf
  rw[hr];exact⟨.inl rfl,fun _=>rfl,fun h=>absurd ((kP iJ 11).2 (.inl rfl)) h⟩
 rw[dA];have mF:∀i,i<12->∃op,aJ[i]? =some op/\eD op=TY.getD i []:=fun i hi=>by
  have kO:i<Gp.length:=by omega
  refine⟨Gp[i],?_,(fQ i _ (eI kO)).2.2.2.2⟩;rw[<-vQ,uA];exact eI kO
 rw[eM];intro i hi;obtain⟨op,h1,h2⟩:=mF i (nH.1 hi);rw[h1];simp only[h2];have hi:=nH.1 hi;revert hi;exact(by decide:∀i<12,(TY.getD i []).all (fun j=>decide (j<i))=true) i;refine⟨fun h=> ?_,fun _=>rfl⟩;unfold bU at h;simp only[vP,HW] at h;split at h<;>simp at h;obtain rfl:=hW.1 (eG 11 (by omega));rw[hT.all (n:=12) (fun i hi=>eG i (by omega)) (fun i hi=>by unfold C';rw[aK (by omega)]) I0 bE];exact hQ
end Go.Proofs.YtdlpbedneamebaaGreatDoor
namespace Go.Proofs.YtdlpbedneamebaaGreatDoor
open Go.VM Go.RowKit
open Go.ChangeMaps (setBlock)
noncomputable def Gm:List Oper:=((Tryz.f14.body).bind (Et 8)).getD []
abbrev TX:List (List Nat):=[[],[],[1],[],[3],[2,4],[0,5],[],[7],[6,8],[0,5,0,1,2,3,4,5,7,8],[10],[0,11,9,10,0,1,2,3,4,5,6,7,8,9,10,11]]
abbrev bI1:List Op:=[.move (.tmp 3),.fieldAddr 61 (.tmp 7) 0,.load 3 (.tmp 26),.fieldAddr 61 (.tmp 7) 2,.load 9 (.tmp 28),.build 87 #[(0,.tmp 27),(1,.tmp 29)],.lookup 85 (.tmp 25) (.tmp 30) false,.fieldAddr 61 (.tmp 7) 1,.load 3 (.tmp 32),.binOp .add 3 (.tmp 31) (.tmp 33) 3,.mapEntry 85 (.tmp 25) (.tmp 30),.extract (.tmp 35) 1,.entryStore 85 (.tmp 25) (.tmp 36) (.tmp 34)]
def fC2:Gm.map eD=TX:=by kernel_rfl
def eH9:Gm.map (·.guard)=List.replicate 13 none:=by kernel_rfl
def Cz (i:Nat):Option Nat:=if i<12 then some (25+i) else none
def eR6:Gm.map (·.dst)=(List.range 13).map Cz:=by kernel_rfl
def dN2:Gm.map (·.op)=bI1:=by kernel_rfl
section
variable {w:World} {ρ:Operand->Value} {o:Oper}
def Y7 {x:Operand}{b i:Nat}(hi:i<3)(ho:o.op= .fieldAddr 61 x i)(hx:ρ x= .pointer (some ⟨b,0,none⟩)):(execOp ρ o).run Tryz.prog w= .ok (.value (.pointer (some ⟨b,i,none⟩))) w:=by
 simp only[execOp,ho,hx]
 match i,hi with|0,_=>simp[Instr.fieldAt,eE Tryz.underlying61,go_sem,Addr.add]|1,_=>simp[Instr.fieldAt,eE Tryz.underlying61,go_sem,Addr.add]|2,_=>simp[Instr.fieldAt,eE Tryz.underlying61,go_sem,Addr.add]
def dG2 {x y:Operand}{k:lS}(ho:o.op= .build 87 #[(0,x),(1,y)])(hx:ρ x= .int .i64 k.1)(hy:ρ y= .string k.2):(execOp ρ o).run Tryz.prog w= .ok (.value (jY k)) w:=by simp only[execOp,ho];simp[hx,hy,go_sem,jY]
def dF7 {x y:Operand}{b:Nat}{kv u:Value}(ho:o.op= .lookup 85 x y false)(hx:ρ x= .map (some b))(hy:ρ y=kv)(h:(Instr.lookup 85 (.map (some b)) kv false).run Tryz.prog w= .ok u w):(execOp ρ o).run Tryz.prog w= .ok (.value u) w:=by simp only[execOp,ho,hx,hy,dX,h,dQ,eU]
def dG1 {x y:Operand}{b:Nat}{kv u:Value}{w1:World}(ho:o.op= .mapEntry 85 x y)(hx:ρ x= .map (some b))(hy:ρ y=kv)(h:(Instr.mapEntry 85 (.map (some b)) kv).run Tryz.prog w= .ok u w1):(execOp ρ o).run Tryz.prog w= .ok (.value u) w1:=by simp only[execOp,ho,hx,hy,dX,h,dQ,eU]
def dF9 {x:Operand}{u v:Value}(ho:o.op= .extract x 1)(hx:ρ x= .tuple #[u,v]):(execOp ρ o).run Tryz.prog w= .ok (.value v) w:=by simp[execOp,ho,hx,go_sem,Instr.extract]
def dG0 {x y z:Operand}{b:Nat}{s u:Value}{w1:World}(ho:o.op= .entryStore 85 x y z)(hx:ρ x= .map (some b))(hy:ρ y=s)(hz:ρ z=u)(h:(Instr.entryStore 85 (.map (some b)) s u).run Tryz.prog w= .ok () w1):(execOp ρ o).run Tryz.prog w= .ok .skip w1:=by simp only[execOp,ho,hx,hy,hz,dX,h,dQ,eU]
end
def UL (b X:Nat)(k:lS)(am v0:Int)(st:Nat):Nat->Value
 |0=> .map (some b)|1=> .pointer (some ⟨X,0,none⟩)|2=> .int .i64 k.1|3=> .pointer (some ⟨X,2,none⟩)|4=> .string k.2|5=>jY k|6=> .int .i64 (v0)|7=> .pointer (some ⟨X,1,none⟩)|8=> .int .i64 am|9=> .int .i64 (wrap64 (v0+am))|10=> .tuple #[.int .i64 (v0),goInt st]|11=>goInt st|_=>undef
def Uw {w:World}{b:Nat}{o o':Obj}(h:w.heap[b]? =some o):(setBlock w b o').heap[b]? =some o':=Y1 h
def dD7 {w:World}{b:Nat}{es:Array MapEntry}{clock:Nat}(h:w.heap[b]? =some (.map es clock)){p:Addr}{v:Value}(hp:w.cell? p=some v)(o':Obj):(setBlock w b o').cell? p=some v:=by
 have bM:p.block≠b:=fun e=>by unfold World.cell? at hp;rw[e,h] at hp;cases hp
 rw[<-hp];simp only[World.cell?,Uz bM]
def Ux {w:World}{b:Nat}{o:Obj}:w.grownBy (setBlock w b o) (some b):=
 ⟨rfl,rfl,rfl,by rw[Y0];exact dD _,fun k _ hk=>Uz fun e=>hk (by rw[e])⟩
def dI0 {a0:Act}{w:World}{b X:Nat}{k:lS}{am:Int}{l:iM}{es:Array MapEntry}{clock:Nat}(hs:a0.tmps.size=60)(t3:tm a0 3=some (.map (some b)))(t7:tm a0 7=some (.pointer (some ⟨X,0,none⟩)))
  (hb:w.heap[b]? =some (.map es clock))(he:fT es clock l)(hk:NZ k)(c0:w.cell? ⟨X,0,none⟩=some (.int .i64 k.1))(c1:w.cell? ⟨X,1,none⟩=some (.int .i64 am))(c2:w.cell? ⟨X,2,none⟩=some (.string k.2))
  {aJ:Array Oper}(uA:aJ.toList=Gm){Q:Exit->Act->World->Prop}
  (hQ:∀(st:Nat) (w2:World) (es2:Array MapEntry) (DP:Nat),w.drew.grownBy w2 (some b)->w2.heap[b]? =some (.map es2 DP)->fT es2 DP (AB l k (wrap64 (qA l k+am)))->Q .normal ((((((((((((a0.put (some 25) (.map (some b))).put (some 26) (.pointer (some ⟨X,0,none⟩))).put (some 27) (.int .i64 k.1)).put (some 28) (.pointer (some ⟨X,2,none⟩))).put (some 29) (.string k.2)).put (some 30) (jY k)).put (some 31) (.int .i64 (qA l k))).put (some 32) (.pointer (some ⟨X,1,none⟩))).put (some 33) (.int .i64 am)).put (some 34) (.int .i64 (wrap64 (qA l k+am)))).put (some 35) (.tuple #[.int .i64 (qA l k),goInt st])).put (some 36) (goInt st)) w2):
  (Code.region 8 aJ true).wp Tryz.prog Q a0 w:=by
 have hl13:Gm.length=13:=by kernel_rfl
 have dA:aJ.size=13:=by rw[<-tJ,uA,hl13]
 obtain⟨st,es1,AW,hA,hB⟩:=cY5 he hk b;have I0:∀i j n,Cz i=some n->Cz j=some n->i=j:=fun i j n h h'=>by unfold Cz at h h';split at h<;>split at h'<;>simp at h h';omega
 have bE:∀i n,Cz i=some n->n<a0.tmps.size:=fun i n h=>by unfold Cz at h;split at h<;>simp at h;omega
 have fQ:∀(i:Nat) op,Gm[i]? =some op->i<13/\op.op=bI1.getD i default/\op.dst=Cz i/\op.guard=none/\eD op=TX.getD i []:=fun i op hi=>by
  have R8:i<13:=by rw[<-hl13];exact(fE.1 hi).1
  have e1:=jV (fun l=>l[i]?) dN2;have e2:=jV (fun l=>l[i]?) eR6;have e3:=jV (fun l=>l[i]?) eH9;have e4:=jV (fun l=>l[i]?) fC2;simp only[kG,hi,eB] at e1 e2 e3 e4;refine⟨R8,?_,?_,?_,?_⟩;rw[EX,<-e1];rfl;rw[Ts R8] at e2;simpa using e2;rw[X4,aY R8] at e3;exact uR e3;rw[EX,<-e4];rfl
 obtain⟨w1,cU⟩:∃w1,w1=setBlock w.drew b (.map es1 AW):=⟨_,rfl⟩;have nT:w.drew.heap[b]? =some (.map es clock):=hb;have yF:w1.heap[b]? =some (.map es1 AW):=by rw[cU];exact Uw nT
 have cell:∀(wq:World),(wq=w.drew\/wq=w1)->∀{p:Addr} {v:Value},w.cell? p=some v->wq.cell? p=some v:=fun wq hq p v hp=>by rcases hq with rfl|rfl;exact hp;rw[cU];exact dD7 nT hp _
 obtain⟨es2,DP,aC,Cr⟩:=(hB w1 yF).2 (wrap64 (qA l k+am));refine Yb (by kernel_rfl) (ds:=Cz) (val:=UL b X k am (qA l k) st) (fun l w'=>(bU l 12->w'=setBlock w1 b (.map es2 DP))/\(¬bU l 12->bU l 10->w'=w1)/\(¬bU l 12->¬bU l 10->w'=w.drew)) I0 bE (fun i op hi=> ?_) (fun i op hi L hl bM fV cK a w' hT hW=> ?_) ?_ ?_ (fun L a' w' eG hT hW=> ?_);rw[uA] at hi;exact⟨(fQ i op hi).2.2.1,(fQ i op hi).2.2.2.1⟩;rw[uA] at hi cK hl;obtain⟨R8,ho,hd,hg,ha⟩:=fQ i op hi;rw[ha] at fV;have iJ:i<L.size:=by omega
 have R5:¬bU L 12:=fun kF=>by
  by_cases he:i=12;subst he;exact bM kF;obtain⟨Dq,ho12⟩:∃Dq,Gm[12]? =some Dq:=⟨_,eI (by omega)⟩;have:=cK 12 Dq ho12 kF i (by
   rw[(fQ 12 Dq ho12).2.2.2.2];have FX:i<12:=by omega
   revert FX;exact(by decide:∀i<12,i∈TX.getD 12 []) i)
  exact bM this
 have hwq:w'=w.drew\/w'=w1:=by by_cases oT:bU L 10;exact .inr (hW.2.1 R5 oT);exact .inl (hW.2.2 R5 oT)
 have ev:∀j,j<12->bU L j->a.eval (.tmp (25+j))=UL b X k am (qA l k) st j:=fun j hj hx=>eW (hT.2.2.1 j _ hx (by simp[Cz,hj]));have e3:a.eval (.tmp 3)= .map (some b):=eW ((hT.2.2.2 3 (fun i _ h=>by unfold Cz at h;split at h<;>simp at h;omega)).trans t3);have e7:a.eval (.tmp 7)= .pointer (some ⟨X,0,none⟩):=eW ((hT.2.2.2 7 (fun i _ h=>by unfold Cz at h;split at h<;>simp at h;omega)).trans t7);have hx12:i≠12->(bU (L.setIfInBounds i true) 12↔bU L 12):=fun h=>by rw[kP iJ];exact⟨fun h'=>h'.resolve_left fun e=>h e.symm,.inr⟩
 have hx10:i≠10->(bU (L.setIfInBounds i true) 10↔bU L 10):=fun h=>by rw[kP iJ];exact⟨fun h'=>h'.resolve_left fun e=>h e.symm,.inr⟩
 have rW:∀u,u=UL b X k am (qA l k) st i->i≠12->i≠10->(execOp a.eval op).run Tryz.prog w'= .ok (.value u) w'->f8 Tryz.prog ((execOp a.eval op).run Tryz.prog w') fun u w1'=>(Cz i=none\/u=UL b X k am (qA l k) st i)/\((bU (L.setIfInBounds i true) 12->w1'=setBlock w1 b (.map es2 DP))/\(¬bU (L.setIfInBounds i true) 12->bU (L.setIfInBounds i true) 10->w1'=w1)/\(¬bU (L.setIfInBounds i true) 12->¬bU (L.setIfInBounds i true) 10->w1'=w.drew)):=fun u hu kF oT hr=>by rw[hr];refine⟨.inr hu,?_⟩;rw[hx12 kF,hx10 oT];exact hW
 have Vf:(Instr.lookup 85 (.map (some b)) (jY k) false).run Tryz.prog w'= .ok (.int .i64 (qA l k)) w':=by rcases hwq with rfl|rfl;exact(hA _ nT).1;exact(hB _ yF).1
 match i,R8 with
 |0,_=>exact rW _ e3 (by decide) (by decide) (VC ho)|1,_=>exact rW _ rfl (by decide) (by decide) (Y7 (by decide) ho e7)|2,_=>exact rW _ rfl (by decide) (by decide) (Lo Tryz.underlying3 (by kernel_rfl) ho (ev 1 (by decide) (fV 1 (by decide))) (cell _ hwq c0))|3,_=>exact rW _ rfl (by decide) (by decide) (Y7 (by decide) ho e7)|4,_=>exact rW _ rfl (by decide) (by decide) (Lo Tryz.underlying9 (by kernel_rfl) ho (ev 3 (by decide) (fV 3 (by decide))) (cell _ hwq c2))|5,_=>exact rW _ rfl (by decide) (by decide) (dG2 ho (ev 2 (by decide) (fV 2 (by decide))) (ev 4 (by decide) (fV 4 (by decide))))|6,_=>exact rW _ rfl (by decide) (by decide) (dF7 ho (ev 0 (by decide) (fV 0 (by decide))) (ev 5 (by decide) (fV 5 (by decide))) Vf)|7,_=>exact rW _ rfl (by decide) (by decide) (Y7 (by decide) ho e7)|8,_=>exact rW _ rfl (by decide) (by decide) (Lo Tryz.underlying3 (by kernel_rfl) ho (ev 7 (by decide) (fV 7 (by decide))) (cell _ hwq c1))|9,_=>exact rW _ rfl (by decide) (by decide) (bD5 ho (ev 6 (by decide) (fV 6 (by decide))) (ev 8 (by decide) (fV 8 (by decide))))
 |10,_=>
  have hn10:¬bU L 10:=bM;obtain rfl:=hW.2.2 R5 hn10;have hr:(execOp a.eval op).run Tryz.prog w.drew= .ok (.value (.tuple #[.int .i64 (qA l k),goInt st])) w1:=by rw[cU];exact dG1 ho (ev 0 (by decide) (fV 0 (by decide))) (ev 5 (by decide) (fV 5 (by decide))) (hA _ nT).2
  rw[hr];exact⟨.inr rfl,fun h=>absurd ((hx12 (by decide)).1 h) R5,fun _ _=>rfl,fun _ h=>absurd ((kP iJ 10).2 (.inl rfl)) h⟩
 |11,_=>exact rW _ rfl (by decide) (by decide) (dF9 ho (ev 10 (by decide) (fV 10 (by decide))))|12,_=>obtain rfl:=hW.2.1 R5 (fV 10 (by decide));have hr:(execOp a.eval op).run Tryz.prog w'= .ok .skip (setBlock w' b (.map es2 DP)):=dG0 ho (ev 0 (by decide) (fV 0 (by decide))) (ev 11 (by decide) (fV 11 (by decide))) (ev 9 (by decide) (fV 9 (by decide))) aC;rw[hr];exact⟨.inl rfl,fun _=>rfl,fun h=>absurd ((kP iJ 12).2 (.inl rfl)) h,fun h=>absurd ((kP iJ 12).2 (.inl rfl)) h⟩
 rw[dA];have mF:∀i,i<13->∃op,aJ[i]? =some op/\eD op=TX.getD i []:=fun i hi=>by
  have kO:i<Gm.length:=by omega
  refine⟨Gm[i],?_,(fQ i _ (eI kO)).2.2.2.2⟩;rw[<-vQ,uA];exact eI kO
 rw[eM];intro i hi;obtain⟨op,h1,h2⟩:=mF i (nH.1 hi);rw[h1];simp only[h2];have hi:=nH.1 hi;revert hi;exact(by decide:∀i<13,(TX.getD i []).all (fun j=>decide (j<i))=true) i;have hn:∀j,¬bU (Array.replicate aJ.size false) j:=fun j h=>by unfold bU at h;simp only[vP,HW] at h;split at h<;>simp at h
 exact⟨fun h=>absurd h (hn _),fun _ h=>absurd h (hn _),fun _ _=>rfl⟩;obtain rfl:=hW.1 (eG 12 (by omega));rw[hT.all (n:=13) (fun i hi=>eG i (by omega)) (fun i hi=>by unfold Cz;rw[aK (by omega)]) I0 bE];refine hQ st _ es2 DP ?_ (Uw yF) Cr;have g1:w.drew.grownBy w1 (some b):=by rw[cU];exact Ux
 have g2:w1.grownBy (setBlock w1 b (.map es2 DP)) (some b):=Ux;exact⟨g2.os.trans g1.os,g2.tape.trans g1.tape,g2.output.trans g1.output,fG g1.size g2.size,fun j hj bM=>(g2.block j (vU hj g1.size) bM).trans (g1.block j hj bM)⟩
end Go.Proofs.YtdlpbedneamebaaGreatDoor
namespace Go.Proofs.YtdlpbedneamebaaGreatDoor
open Go.VM Go.RowKit Go.Shelf
def qD:List (Pk×Int):=[((5,4,1),4),((6,4,1),4),((6,4,4),1),((7,1,1),1),((7,2,3),2),((7,3,2),2),((8,1,1),1),((8,2,2),1)]
noncomputable def y9:List Oper:=((Tryz.f278.body).bind (Et 1)).getD []
abbrev TZ:List (List Nat):=[[],[],[0,1],[],[0,3],[],[0,5],[],[0,7],[],[0,9],[],[0,11],[],[0,13],[],[0,15],[0,1,2,3,4,5,6,7,8,9,10,11,12,13,14,15,16],[17,0,1,2,3,4,5,6,7,8,9,10,11,12,13,14,15,16,17]]
def bld (x:Pk):Op:= .build 328 #[(0,.const (.int .i64 x.1)),(1,.const (.int .i64 x.2.1)),(2,.const (.int .i64 x.2.2))]
def ZJ:List Op:=[.makeMap 325 none,bld (5,4,1),.insert 325 (.tmp 6) (.tmp 7) (.const (.int .i64 4)),bld (6,4,1),.insert 325 (.tmp 6) (.tmp 8) (.const (.int .i64 4)),bld (6,4,4),.insert 325 (.tmp 6) (.tmp 9) (.const (.int .i64 1)),bld (7,1,1),.insert 325 (.tmp 6) (.tmp 10) (.const (.int .i64 1)),bld (7,2,3),.insert 325 (.tmp 6) (.tmp 11) (.const (.int .i64 2)),bld (7,3,2),.insert 325 (.tmp 6) (.tmp 12) (.const (.int .i64 2)),bld (8,1,1),.insert 325 (.tmp 6) (.tmp 13) (.const (.int .i64 1)),bld (8,2,2),.insert 325 (.tmp 6) (.tmp 14) (.const (.int .i64 1)),.move (.tmp 6),.assign (.tmp 15)]
def fC4:y9.map eD=TZ:=by kernel_rfl
def gd1:y9.map (·.guard)=List.replicate 19 none:=by kernel_rfl
def BJ (i:Nat):Option Nat:=if i=0 then some 6 else if i=17 then some 15 else if i=18 then some 1 else if i<17/\i % 2=1 then some (7+i / 2) else none
def eR8:y9.map (·.dst)=(List.range 19).map BJ:=by kernel_rfl
def op1:y9.map (·.op)=ZJ:=by kernel_rfl
def LQ (N i:Nat):Value:=if i=0\/i=17\/i=18 then .map (some N) else match qD[i / 2]? with |some x=>jK x.1|none=>undef
section
variable {w:World} {ρ:Operand->Value} {o:Oper}
def dG3 {x:Pk}(ho:o.op=bld x)(h0:∀v,ρ (.const v)=v):(execOp ρ o).run Tryz.prog w= .ok (.value (jK x)) w:=by
 have e:(#[(0,Operand.const (Value.int IntKind.i64 x.1)),(1,Operand.const (Value.int IntKind.i64 x.2.1)),(2,Operand.const (Value.int IntKind.i64 x.2.2))]:Array (Nat×Operand)).map (fun x=>(x.1,ρ x.2))= #[(0,.int .i64 x.1),(1,.int .i64 x.2.1),(2,.int .i64 x.2.2)]:=by simp[h0]
 have h:(Instr.build 328 #[(0,.int .i64 x.1),(1,.int .i64 x.2.1),(2,.int .i64 x.2.2)]).run Tryz.prog w= .ok (jK x) w:=by kernel_rfl
 simp only[execOp,ho,bld];rw[e];simp only[dX,h,dQ,eU]
def dF6 (ho:o.op= .makeMap 325 none):(execOp ρ o).run Tryz.prog w= .ok (.value (.map (some w.heap.size))) (w.alloc (.map #[] 0)):=by simp only[execOp,ho,Option.map_none,dX,run_makeMap,dQ,eU]
def dF8 {m k:Operand}{b:Nat}{kk:Pk}{n:Int}{es1:Array MapEntry}{AW:Nat}(ho:o.op= .insert 325 m k (.const (.int .i64 n)))(hm:ρ m= .map (some b))(hk:ρ k=jK kk)(h0:∀v,ρ (.const v)=v)
  (hu:(Instr.mapUpdate 325 (.map (some b)) (jK kk) (.int .i64 n)).run Tryz.prog w= .ok () (ChangeMaps.setBlock w b (.map es1 AW))):(execOp ρ o).run Tryz.prog w= .ok .skip (ChangeMaps.setBlock w b (.map es1 AW)):=by
 simp only[execOp,ho,hm,hk,h0,dX,hu,dQ,eU]
end
def fB4:∀x∈qD,GG x.1:=by intro x hx;simp only[qD,eP,xG,xH] at hx;rcases hx with rfl|rfl|rfl|rfl|rfl|rfl|rfl|rfl<;>exact⟨rfl,rfl,rfl⟩
def fB1 (j:Nat)(h:j<8):GG (qD[j]'h).1:=fB4 _ (gN _)
def fB2:∀i j:Fin 8,(qD[i.1]'i.2).1=(qD[j.1]'j.2).1->i=j:=by decide
def fB3 (i j:Nat)(hi:i<8)(hj:j<8)(h:(qD[i]'hi).1=(qD[j]'hj).1):i=j:=by have:=fB2 ⟨i,hi⟩ ⟨j,hj⟩ h;simpa using this
def XH (w:World)(l:Array Bool)(w':World):Prop:=(¬bU l 0->w'=w.drew)/\(bU l 0->∃es clock L,rI es clock L/\w'.heap[w.heap.size]? =some (.map es clock)/\Below w.heap.size w w'/\(∀j (hj:j<8),bU l (2*j+2)->uI L (qD[j]'hj).1=(qD[j]'hj).2)/\∀k,(∀j (hj:j<8),bU l (2*j+2)->(qD[j]'hj).1≠k)->uI L k=0)
def XV (k:Pk):Int:=uI qD k
def Qx (i:Nat)(op:Oper)(hi:y9[i]? =some op):i<19/\op.op=ZJ.getD i default/\op.dst=BJ i/\op.guard=none/\eD op=TZ.getD i []:=by
 have hl:y9.length=19:=by kernel_rfl
 have FX:i<19:=by rw[<-hl];exact(fE.1 hi).1
 have e1:=jV (fun l=>l[i]?) op1;have e2:=jV (fun l=>l[i]?) eR8;have e3:=jV (fun l=>l[i]?) gd1;have e4:=jV (fun l=>l[i]?) fC4;simp only[kG,hi,eB] at e1 e2 e3 e4;refine⟨FX,?_,?_,?_,?_⟩;rw[EX,<-e1];rfl;rw[Ts FX] at e2;simpa using e2;rw[X4,aY FX] at e3;exact uR e3;rw[EX,<-e4];rfl
def bW1:∀i j n,BJ i=some n->BJ j=some n->i=j:=by intro i j n h h';unfold BJ at h h';split at h<;>split at h'<;>(try split at h)<;>(try split at h')<;>(try split at h)<;>(try split at h')<;>(try split at h)<;>(try split at h')<;>simp at h h'<;>omega
def eR9:∀i n,BJ i=some n->n<49:=by intro i n h;unfold BJ at h;split at h<;>(try split at h)<;>(try split at h)<;>(try split at h)<;>simp at h<;>omega
def XH.pure {w w':World}{l:Array Bool}{i:Nat}(iJ:i<l.size)(h0:i≠0)(hj:∀j,j<8->i≠2*j+2)(h:XH w l w'):XH w (l.setIfInBounds i true) w':=by
 have e0:bU (l.setIfInBounds i true) 0↔bU l 0:=by rw[kP iJ];exact⟨fun h=>h.resolve_left (fun e=>h0 e.symm),.inr⟩
 have ej:∀j,j<8->(bU (l.setIfInBounds i true) (2*j+2)↔bU l (2*j+2)):=fun j hjj=>by rw[kP iJ];exact⟨fun h=>h.resolve_left (fun e=>hj j hjj e.symm),.inr⟩
 refine⟨fun hn=>h.1 (fun hx=>hn (e0.2 hx)),fun hx=> ?_⟩;obtain⟨es,clock,L,h1,h2,h3,h4,h5⟩:=h.2 (e0.1 hx);exact⟨es,clock,L,h1,h2,h3,fun j hjj hx=>h4 j hjj ((ej j hjj).1 hx),fun k hk=>h5 k fun j hjj hx=>hk j hjj ((ej j hjj).2 hx)⟩
def eH8:∀j (hj:j<8),XV (qD[j]'hj).1=(qD[j]'hj).2:=by
 intro j h;have:j=0\/j=1\/j=2\/j=3\/j=4\/j=5\/j=6\/j=7:=by omega
 rcases this with rfl|rfl|rfl|rfl|rfl|rfl|rfl|rfl<;>rfl
set_option maxHeartbeats 4000000 in
def fB0 {a0:Act}{w:World}(hs:a0.tmps.size=49){aJ:Array Oper}(uA:aJ.toList=y9){Q:Exit->Act->World->Prop}
  (hQ:∀(w':World) (es:Array MapEntry) (clock:Nat) (L:qV),w'.heap[w.heap.size]? =some (.map es clock)->rI es clock L->(∀k,uI L k=XV k)->Below w.heap.size w w'->Q .normal ((List.range 19).foldl (fun a i=>a.put (BJ i) (LQ w.heap.size i)) a0) w'):(Code.region 1 aJ true).wp Tryz.prog Q a0 w:=by
 have hl19:y9.length=19:=by kernel_rfl
 have dA:aJ.size=19:=by rw[<-tJ,uA,hl19]
 have bE:∀i n,BJ i=some n->n<a0.tmps.size:=fun i n h=>by rw[hs];exact eR9 i n h
 refine Yb (by kernel_rfl) (ds:=BJ) (val:=LQ w.heap.size) (XH w) bW1 bE (fun i op hi=> ?_) (fun i op hi l hl bM fV cK a w' hT hW=> ?_) ?_ ?_ (fun l a' w' eG hT hW=> ?_);rw[uA] at hi;exact⟨(Qx i op hi).2.2.1,(Qx i op hi).2.2.2.1⟩;rw[uA] at hi cK hl;obtain⟨hi19,ho,hd,hg,ha⟩:=Qx i op hi;rw[ha] at fV;have iJ:i<l.size:=by omega
 have iQ:∀j n,bU l j->BJ j=some n->a.eval (.tmp n)=LQ w.heap.size j:=fun j n hx hd=>eW (hT.2.2.1 j n hx hd);have bR0:∀v,a.eval (.const v)=v:=fun _=>rfl;by_cases h0:i=0;subst h0;obtain rfl:=hW.1 bM;have hr:(execOp a.eval op).run Tryz.prog w.drew= .ok (.value (.map (some w.heap.size))) (w.drew.alloc (.map #[] 0)):=dF6 ho;rw[hr];refine⟨.inr rfl,fun h=>absurd ((kP iJ 0).2 (.inl rfl)) h,fun _=>⟨#[],0,[],rI.nil,World.alloc_heap_new w.drew _,(cZ _ w).drew.alloc (dD _) _,fun j hj hx=> ?_,fun k _=>rfl⟩⟩;exfalso;have lX:bU l (2*j+2):=((kP iJ _).1 hx).resolve_left (by omega);obtain⟨o',oC⟩:∃o',y9[2*j+2]? =some o':=⟨_,eI (by omega)⟩;refine bM (cK _ o' oC lX 0 ?_);rw[(Qx _ o' oC).2.2.2.2];have:j=0\/j=1\/j=2\/j=3\/j=4\/j=5\/j=6\/j=7:=by omega
 rcases this with rfl|rfl|rfl|rfl|rfl|rfl|rfl|rfl<;>decide;by_cases h17:i=17;subst h17;have FO:=fV 0 (by decide);have hr:(execOp a.eval op).run Tryz.prog w'= .ok (.value (.map (some w.heap.size))) w':=VC (x:= .tmp 6) ho |>.trans (by rw[iQ 0 6 FO rfl];rfl);rw[hr];exact⟨.inr rfl,hW.pure iJ (by decide) (fun j hj=>by omega)⟩;by_cases h18:i=18;subst h18;have FO:=fV 17 (by decide);have hr:(execOp a.eval op).run Tryz.prog w'= .ok (.value (.map (some w.heap.size))) w':=by have:=iQ 17 15 FO rfl;simp only[execOp,show op.op= .assign (.tmp 15) from ho,this,eU];rfl
 rw[hr];exact⟨.inr rfl,hW.pure iJ (by decide) (fun j hj=>by omega)⟩;by_cases hodd:i % 2=1;obtain⟨j,rfl⟩:∃j,i=2*j+1:=⟨i / 2,by omega⟩;have hj8:j<8:=by omega
 have hob:op.op=bld (qD[j]'hj8).1:=by
  rw[ho];have:j=0\/j=1\/j=2\/j=3\/j=4\/j=5\/j=6\/j=7:=by omega
  rcases this with rfl|rfl|rfl|rfl|rfl|rfl|rfl|rfl<;>rfl
 have hr:(execOp a.eval op).run Tryz.prog w'= .ok (.value (jK (qD[j]'hj8).1)) w':=dG3 hob bR0;rw[hr];refine⟨.inr ?_,hW.pure iJ (by omega) (fun k hk=>by omega)⟩;unfold LQ;rw[aK (by omega),show(2*j+1) / 2=j by omega,eI hj8];obtain⟨j,rfl⟩:∃j,i=2*j+2:=⟨i / 2 - 1,by omega⟩;have hj8:j<8:=by omega
 have haf:0∈TZ.getD (2*j+2) []/\2*j+1∈TZ.getD (2*j+2) []/\ZJ.getD (2*j+2) default= .insert 325 (.tmp 6) (.tmp (7+j)) (.const (.int .i64 (qD[j]'hj8).2))/\BJ (2*j+1)=some (7+j)/\BJ (2*j+2)=none:=by
  have:j=0\/j=1\/j=2\/j=3\/j=4\/j=5\/j=6\/j=7:=by omega
  rcases this with rfl|rfl|rfl|rfl|rfl|rfl|rfl|rfl<;>exact⟨by decide,by decide,rfl,rfl,rfl⟩
 obtain⟨m0,m1,kB,hdj,hdn⟩:=haf;have FO:=fV _ m0;have r8:=fV _ m1;rw[kB] at ho;have e6:=iQ 0 6 FO rfl;have e7:=iQ (2*j+1) (7+j) r8 hdj;have hv7:LQ w.heap.size (2*j+1)=jK (qD[j]'hj8).1:=by unfold LQ;rw[aK (by omega),show(2*j+1) / 2=j by omega,eI hj8]
 rw[hv7] at e7;obtain⟨es,clock,L,hP,MN,hB,h4,h5⟩:=hW.2 FO;obtain⟨es1,AW,hP1,hu⟩:=aS4 hP (fB1 j hj8) (qD[j]'hj8).2;have hr:(execOp a.eval op).run Tryz.prog w'= .ok .skip (ChangeMaps.setBlock w' w.heap.size (.map es1 AW)):=dF8 ho e6 e7 bR0 (hu _ _ MN);rw[hr];have ej:∀m,bU (l.setIfInBounds (2*j+2) true) (2*m+2)↔m=j\/bU l (2*m+2):=fun m=>by rw[kP iJ];exact⟨fun h=>h.imp (fun e=>by omega) id,fun h=>h.imp (fun e=>by omega) id⟩
 refine⟨.inl hdn,fun h=>absurd ((kP iJ 0).2 (.inr FO)) h,fun _=>⟨es1,AW,C3 L (qD[j]'hj8).1 (qD[j]'hj8).2,hP1,Uw MN,hB.grown Ux hB.size (fun k hk=>by cases hk;exact dD _),fun m hm hx=> ?_,fun k hk=> ?_⟩⟩;rw[Vj];rcases(ej m).1 hx with rfl|hx;rw[aY rfl];by_cases e:(qD[j]'hj8).1=(qD[m]'hm).1;obtain rfl:=fB3 j m hj8 hm e;rw[aY rfl];rw[aK e];exact h4 m hm hx;rw[Vj,aK (hk j hj8 ((ej j).2 (.inl rfl)))];exact h5 k fun m hm hx=>hk m hm ((ej m).2 (.inr hx));rw[dA,eM];intro i hi;have hi:=nH.1 hi;have kO:i<y9.length:=by omega
 have h1:aJ[i]? =some y9[i]:=by rw[<-vQ,uA];exact eI kO
 rw[h1];simp only[(Qx i _ (eI kO)).2.2.2.2];revert hi;exact(by decide:∀i<19,(TZ.getD i []).all (fun j=>decide (j<i))=true) i;refine⟨fun _=>rfl,fun h=> ?_⟩;unfold bU at h;simp only[vP,HW] at h;split at h<;>simp at h;obtain⟨es,clock,L,hP,MN,hB,h4,h5⟩:=hW.2 (eG 0 (by omega));rw[hT.all (n:=19) (fun i hi=>eG i (by omega)) (fun i hi=>by unfold BJ;rw[aK (by omega),aK (by omega),aK (by omega),aK (by omega)]) bW1 bE];refine hQ w' es clock L MN hP (fun k=> ?_) hB;by_cases mG:∃j,∃hj:j<8,(qD[j]'hj).1=k;obtain⟨j,hj,rfl⟩:=mG;rw[h4 j hj (eG _ (by omega)),eH8 j hj];rw[h5 k fun j hj _ e=>mG ⟨j,hj,e⟩];unfold XV;rw[aB3];intro x hx e;obtain⟨j,hj,rfl⟩:=lH hx;exact mG ⟨j,hj,e⟩
end Go.Proofs.YtdlpbedneamebaaGreatDoor
