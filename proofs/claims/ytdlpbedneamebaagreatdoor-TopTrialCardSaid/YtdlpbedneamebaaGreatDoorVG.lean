/-
A part of the proof of the last text.
-/
import Derived.Test.YtdlpbedneamebaaGreatDoorVE
import Derived.Lib.LazyBuf
import Derived.Test.YtdlpbedneamebaaGreatDoorVB
set_option linter.all false
namespace Go.VM
open Go.RowKit
variable [cB]
section
variable {P:Program} {nt:Nat} {keep:List Nat} {S:Nat->Prop} {aD:Nat} {w0:World} {aA aN:aG} {a:Act} {w:World} {o:aU}
def FI.put_dead (hF:FI P nt keep S aD w0 aA a w){d:Nat}(hd:aF d aA=none)(hn:d<nt)(u:Value):FI P nt keep S aD w0 aA (a.put (some d) u) w:=by
 obtain⟨Im,cE,bK,hE⟩:=hF.ents;have lN:d<a.tmps.size:=by rw[hF.size];exact hn
 refine⟨hF.srt,by simpa[Act.put] using hF.size,hF.defers,hF.below,hF.kept,hF.bsz,hF.keys,Im,cE,bK,hE.congr fun n x hx=> ?_⟩;exact(jF lN n).trans (aK fun e=>by rw[e,hd] at hx;cases hx)
def aO0 (t tb:TypeId)(p1 p2 p3 p4 p5:Array Edge):Code:=((Code.region 0
      #[{dst:=some 2,op:=Op.assign (Operand.const (Value.slice none 0 0)),type:=t,pos:= "slices.go:355",after:= #[],guard:=none}]
      false).seq
    (((Code.region 1
         #[{dst:=some 3,op:=Op.move (Operand.tmp 0),type:=t,pos:= "slices.go:357",after:= #[],guard:=none},{dst:=some 4,op:=Op.binOp BinOp.eql t (Operand.tmp 3) (Operand.const (Value.slice none 0 0)) t,type:=tb,pos:= "slices.go:357",after:=p1,guard:=none}]
         false).seq
       (Code.cond (Operand.tmp 4)
        ((Code.region 2
           #[{dst:=some 2,op:=Op.assign (Operand.const (Value.slice none 0 0)),type:=t,pos:= "slices.go:358",after:= #[],guard:=none}]
           false).seq
         Code.ret)
        Code.skip)).seq
     ((Code.region 3
        #[{dst:=some 5,op:=Op.buildSlice t 0 #[],type:=t,pos:= "slices.go:362",after:=p2,guard:=none},{dst:=some 6,op:=Op.move (Operand.tmp 0),type:=t,pos:= "slices.go:362",after:=p3,guard:=none},{dst:=some 7,op:= Op.call {callee:=Callee.builtin Builtin.append,args:= #[Operand.tmp 5,Operand.tmp 6],argTypes:= #[t,t]},type:=t,pos:= "slices.go:362",after:=p4,guard:=none},{dst:=some 2,op:=Op.assign (Operand.tmp 7),type:=t,pos:= "slices.go:362",after:=p5,guard:=none}]
        false).seq
      Code.ret)))
def eW3 (hM:Ko P){f:FuncId}{fn:Func}{t tb e:TypeId}{p1 p2 p3 p4 p5:Array Edge}(hf:P.funcs[f]? =some fn)(wT:fn.body=some (aO0 t tb p1 p2 p3 p4 p5))(eA:fn.results= #[.tmp 2])(lA:fn.ntmps=8)
  {k b:Nat}{zc:List V}(iR:CG P t=some e)(uC:AS P t=some k)(AL:KV P t=some b)(hz:sK P e=some zc)(fN:0<k/\0<b/\zc.length=k)
  {es:List V}(yD:∀x∈es,x.cells.length=k)(bT:es.length*b<=140737488355328):PF P f [.l es] (.ow e es):=by
 have hu:P.underlying t=some (.slice e):=by unfold CG at iR;split at iR;rename_i e' hu;cases iR;exact hu;cases iR
 have MO:P.elem t=e:=by simp[Program.elem,hu]
 intro S w vs hS hG hr;obtain⟨v,rfl⟩:∃v,vs=[v]:=by
  match vs,hr with|[],hr=>exact absurd hr.1 (by simp)|[v],_=>exact⟨v,rfl⟩|_::_::_,hr=>exact absurd hr.1 (by simp)
 refine LK hf wT ?_;rw[lA];have hF:=FI.start (P:=P) (nt:=8) (keep:=[0,2]) hS hG hr (by rfl) (by simp) (fun n hn=>by simp at hn;simp[hn]) (by simp);have fin:∀(bW:List V) (aN:aG),aN=[(0,.l es),(2,.ow e bW)]->bW=es->∀(a':Act) (w':World),FI P 8 [0,2] S w.heap.size w aN a' w'->bodyPost P fn (fun e' w'=>∃v,e'= .returned v/\Below w.heap.size w w'/\
   ∃S':Nat->Prop,(∀b,S b->S' b)/\(∀b,S' b->(S b\/w.heap.size<=b)/\b<w'.heap.size)/\mJ P S' w' w.heap.size v (.ow e es)) .ret a' w':=by
  intro bW aN he Rb a' w' dI;subst he;subst Rb;exact Qu (rs:=[.tmp 2]) (by rw[eA];rfl) dI (by simp[VD])
 unfold aO0;refine nW (OU (o:=o0) (YY P hM) (ss:=[.as 2 (.c (.ow e []))]) (by simp[n9,Ht,m9,Fk,iR]) rfl (by rfl) hF fun a1 w1 bZ=> ?_);have hF1':FI P 8 [0,2] S w.heap.size w [(0,.l es),(2,.ow e [])] a1 w1:=by simpa[put',aF,put,dropE,V.names,cN,kR] using bZ
 clear bZ;obtain⟨Im,_,_,hE⟩:=hF1'.ents;obtain⟨u,AE,gQ⟩:=hE.ent 0 _ (by rfl:aF 0 [(0,V.l es),(2,V.ow e [])]=some (.l es));obtain⟨ad,c,_,_,rfl,_,_,_,_,hd⟩:=aP.slice gQ;have ev0:=eW AE;have h3:(a1.put (some 3) (.slice ad es.length c)).eval (.tmp 3)= .slice ad es.length c:=by refine eW ?_;exact(jF (by rw[hF1'.size];decide) 3).trans (aY rfl)
 refine nW (nW (yX ?_));have wU:=(hF1'.put_dead (d:=3) rfl (by decide) (.slice ad es.length c)).put_dead (d:=4) rfl (by decide) (.bool ad.isNone);have h4:((a1.put (some 3) (.slice ad es.length c)).put (some 4) (.bool ad.isNone)).eval (.tmp 4)= .bool ad.isNone:=by refine eW ?_;refine(jF ?_ 4).trans (aY rfl);simp[Act.put,hF1'.size]
 simp only[rL,fY,vR,show List.range (0+1+1)=[0,1] from rfl,wpOps,CL,D7,HY,Region.wanted];rw[aY trivial];left;refine f8.wp (Gk (u:= .slice ad es.length c) (w1:=w1) (by simp[execOp,ev0]) ?_);rw[aY trivial];left;refine f8.wp (Gk (u:= .bool ad.isNone) (w1:=w1) (by
  have hr:=run_eql_slice_nil (P:=P) w1 t e ad es.length c hu;have h3c:∀c0,(a1.put (some 3) (.slice ad es.length c)).eval (.const c0)=c0:=fun _=>rfl;simp only[execOp,h3,h3c];simp[eqGuard,hr]) ?_)
 refine H3 h4 ?_;cases ad with
 |none=>
  have hes0:es=[]:=by rcases hd with h|⟨_,h,_⟩;exact h;cases h
  subst hes0;refine nW (OU (o:=o0) (YY P hM) (ss:=[.as 2 (.c (.ow e []))]) (by simp[n9,Ht,m9,Fk,iR]) rfl (by rfl) wU fun a3 w3 rG=> ?_);exact wp_ret (fin [] _ (by simp[put',aF,put,dropE,V.names,cN]) rfl a3 w3 rG)
 |some ad=>
  refine wp_skip ?_;have aC:nM o0 [.bsl 5 e k [],.mv 6 (.t 0),.app 7 e k b (.t 5) (.t 6),.as 2 (.t 7)] [(0,.l es),(2,.ow e [])]=some [(0,.l es),(2,.ow e es),(6,.l es),(7,.al 2)]:=by simp[nM,bS,eC,freeze,put',aF,put,V.names,V.isOwn,dK,iH,BK,frz,wG,owner,bT,cN,eH,hand];exact yD
  refine nW (OU (o:=o0) (YY P hM) (ss:=[.bsl 5 e k [],.mv 6 (.t 0),.app 7 e k b (.t 5) (.t 6),.as 2 (.t 7)]) ?_ aC (by rfl) wU fun a3 w3 rG=> ?_);simp[n9,Ht,m9,cS,srcs,iR,uC,AL,MO,hz,fN]
  ·exact wp_ret (fin es _ (by simp[dropE,V.names]) rfl a3 w3 rG)
end
end Go.VM
