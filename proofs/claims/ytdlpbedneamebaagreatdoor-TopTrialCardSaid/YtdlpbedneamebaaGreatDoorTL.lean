/-
Plain laws and walks: part of the proof of the last text.
-/
import Derived.Test.YtdlpbedneamebaaGreatDoorTie
import Derived.Test.YtdlpbedneamebaaGreatDoorCards
import Derived.JoinedOf
import Derived.Test.YtdlpbedneamebaaGreatDoorProg
import Derived.WideKeyEntry
import Derived.DeepKeys5
import Derived.WalkKit
set_option linter.all false
namespace Go.Proofs.YtdlpbedneamebaaGreatDoor
open Go.ChangeShapes Go.WideShapes
theorem eP1:(Rows.topTrialRow.wf (OpenSpec.ofChange Rows.topTrialSpec))=true:=by kernel_rfl
theorem eP0:(laidOutB Tryz.prog)=true:=by kernel_rfl
theorem eN9:(mapsRowed Tryz.prog)=true:=by kernel_rfl
theorem eM8:(Tryz.f4.params.all (Tryz.prog.readableRec ·))=true:=by kernel_rfl
theorem eM5:(namedTie Tryz.prog Rows.topTrialRow.named Rows.topTrialSpec.vars)=true:=by kernel_rfl
theorem eM4:((Rows.topTrialRow.stops==[]))=true:=by kernel_rfl
theorem eM3:((Tryz.prog.stops==[]))=true:=by kernel_rfl
theorem eM2:((Rows.topTrialRow.knobs==[]))=true:=by kernel_rfl
theorem eM1:((Tryz.prog.stopKnobs==[]))=true:=by kernel_rfl
theorem eM0:((Rows.topTrialRow.inPlace==Tryz.prog.inPlace 4))=true:=by kernel_rfl
theorem eO9:((Rows.topTrialRow.unfollowed==Tryz.prog.unfollowed 4))=true:=by kernel_rfl
theorem eO8:((Rows.topTrialRow.recurses==Tryz.prog.recurses 4))=true:=by kernel_rfl
theorem eO7:((Rows.topTrialRow.named==Tryz.prog.varsNamed 4))=true:=by kernel_rfl
theorem eO6:((Rows.topTrialRow.maps==(Tryz.f4.params.toList++Rows.topTrialSpec.plain.varTypes Tryz.prog).any (Tryz.prog.mapsRec ·)))=true:=by kernel_rfl
theorem eO5:((Rows.topTrialRow.ifaces==(Tryz.f4.params.toList++Rows.topTrialSpec.plain.varTypes Tryz.prog).any (Tryz.prog.ifacesRec ·)))=true:=by kernel_rfl
theorem eO4:((Rows.topTrialRow.mapsOut==Tryz.prog.mapsAmong Tryz.f4.resultTypes.toList))=true:=by kernel_rfl
theorem eO3:((Rows.topTrialRow.loops==(Tryz.f4.params.toList++Rows.topTrialSpec.plain.varTypes Tryz.prog).any (Tryz.prog.loopsFrom ·)))=true:=by kernel_rfl
theorem eO2:((Rows.topTrialRow.wideKeys==(Tryz.f4.params.toList++Rows.topTrialSpec.plain.varTypes Tryz.prog++Tryz.f4.resultTypes.toList).any (Tryz.prog.wideKeysFrom ·)))=true:=by kernel_rfl
theorem eO1:(Rows.topTrialSpec.vars.all (Tryz.prog.varReadable ·))=true:=by kernel_rfl
theorem eO0:(Tryz.f4.resultTypes.all (fun t=>Tryz.prog.readableRec t&&decide (t<Tryz.prog.types.size)))=true:=by kernel_rfl
theorem eN8:((Rows.topTrialRow.ifacesOut==Tryz.f4.resultTypes.toList.any (Tryz.prog.ifacesRec ·)))=true:=by kernel_rfl
theorem eN7:((Rows.topTrialRow.loopsOut==Tryz.f4.resultTypes.toList.any (Tryz.prog.loopsFrom ·)))=true:=by kernel_rfl
theorem eN6:((Rows.topTrialRow.plainKeys==Tryz.prog.plainKeys))=true:=by kernel_rfl
theorem eN5:(Rows.topTrialRow.shortTexts.isNone)=true:=by kernel_rfl
theorem eN4:(Tryz.prog.stopsHeard)=true:=by kernel_rfl
theorem eN3:(Tryz.prog.mayEnter)=true:=by kernel_rfl
theorem eN2:((Rows.topTrialRow.lifted==Tryz.prog.liftsFinal))=true:=by kernel_rfl
theorem eN1:((Tryz.prog.make==some Rows.topTrialRow.make))=true:=by kernel_rfl
theorem eN0:((Rows.topTrialRow.kinds==(if Rows.topTrialRow.domain.isEmpty then[] else Tryz.f4.params.toList.map fun t=>match Tryz.prog.underlying t with |some (.int k)=>some k|_=>none)))=true:=by kernel_rfl
theorem eM9:((Rows.topTrialRow.pinned==Rows.topTrialRow.pinnedBy))=true:=by kernel_rfl
theorem eM7:((Rows.topTrialRow.veiled==(Tryz.f4.params.toList++Rows.topTrialSpec.plain.varTypes Tryz.prog++Tryz.f4.resultTypes.toList).any (Tryz.prog.veiledRec ·)))=true:=by kernel_rfl
theorem eM6:(Rows.topTrialRow.veiledFits Tryz.prog Tryz.f4.params.toList (Tryz.f4.params.toList++Rows.topTrialSpec.plain.varTypes Tryz.prog++Tryz.f4.resultTypes.toList))=true:=by kernel_rfl
theorem nG {a b:Bool}(h:a=true)(k:b=true):(a&&b)=true:=by rw[h,k];rfl
set_option maxRecDepth 1000000 in
theorem bU1:joinedFacts Tryz.prog 4 Tryz.f4 Rows.topTrialSpec Rows.topTrialRow=true:=by unfold joinedFacts;exact(nG (nG (nG (nG (nG (nG (nG (nG (nG (nG (nG (nG (nG (nG (nG (nG (nG (nG (nG (nG (nG (nG (nG (nG (nG (nG (nG (nG (nG (nG (nG eP1 eP0) eN9) eM8) eM5) eM4) eM3) eM2) eM1) eM0) eO9) eO8) eO7) eO6) eO5) eO4) eO3) eO2) eO1) eO0) eN8) eN7) eN6) eN5) eN4) eN3) eN2) eN1) eN0) eM9) eM7) eM6)
end Go.Proofs.YtdlpbedneamebaaGreatDoor
namespace Go.Proofs.YtdlpbedneamebaaGreatDoor
open Go.RowKit Go.ChangeMaps
open Go.WideMaps (KeyLaw)
abbrev lS:=Int×ByteArray
def jY (k:lS):Value:= .agg #[.int .i64 k.1,.string k.2]
def NZ (k:lS):Prop:=(Lit.int .i64 k.1).wf=true/\k.2.size<=maxLen
def IT:KeyLaw Tryz.prog 87:=deep_law (m:=2) (by omega) (by kernel_rfl) (by kernel_rfl) (by kernel_rfl)
def bN9 {k:lS}(h:NZ k):∃l,keyOf Tryz.prog 87 (jY k)=some l:=by
 unfold keyOf;rw[Tryz.underlying87];simp only;have h1:(Tryz.prog.keyType 87&&(jY k).formed Tryz.prog 87)=true:=by
  have a1:Tryz.prog.keyType 87=true:=by kernel_rfl
  have a2:Tryz.prog.cellsOf 87=2:=by kernel_rfl
  simp[a1,jY,Value.formed,Tryz.underlying87,a2]
 rw[if_pos h1];have hz:(Tryz.prog.types.size==0)=false:=by kernel_rfl
 obtain⟨n,hn⟩:∃n,Tryz.prog.types.size+1=n+2:=⟨Tryz.prog.types.size - 1,by have:=(beq_eq_false_iff_ne.1 hz);omega⟩;rw[hn];have c55:Tryz.prog.cellsOf 87=2:=by kernel_rfl
 have c3:Tryz.prog.cellsOf 3=1:=by kernel_rfl
 have c9:Tryz.prog.cellsOf 9=1:=by kernel_rfl
 have hk:Tryz.prog.keyLits (n+2) 87 (jY k).cells.toList=some [.int .i64 k.1,.string k.2.data.toList]:=by unfold Program.keyLits;rw[Tryz.underlying87];simp[jY,Value.cells,c55,Program.keyLits,Tryz.underlying3,Tryz.underlying9,c3,c9,h.1,h.2]
 rw[hk];exact⟨_,rfl⟩
def eD3 {a b:lS}(h:jY a=jY b):a=b:=by simp[jY] at h;exact Prod.ext h.1 h.2
abbrev iM:=List (lS×Int)
def IS (x:lS×Int):Value×Value:=(jY x.1,.int .i64 x.2)
structure fT (es:Array MapEntry) (clock:Nat) (l:iM):Prop where
 eq:es.toList.map (fun e=>(e.key,e.val))=l.map IS
 born:∀x∈es.toList,x.born<clock
 nodup:(es.toList.map (·.born)).Nodup
 ok:∀x∈l,NZ x.1
 keys:(l.map (·.1)).Nodup
def qA:iM->lS->Int
 |[],_=>0|(k',n)::r,k=>if k'=k then n else qA r k
def AB:iM->lS->Int->iM
 |[],k,n=>[(k,n)]|(k',v)::r,k,n=>if k'=k then(k',n)::r else(k',v)::AB r k n
def bR8 {k:lS}:∀{l:iM},(∀x∈l,x.1≠k)->qA l k=0
 |[],_=>rfl|(k',n)::r,h=>by rw[qA,if_neg (h _ (List.mem_cons_self ..))];exact bR8 fun x hx=>h x (List.mem_cons_of_mem _ hx)
def bB5 {k:lS}{n:Int}:∀{l:iM},(∀x∈l,x.1≠k)->AB l k n=l++[(k,n)]
 |[],_=>rfl|(k',v)::r,h=>by rw[AB,if_neg (h _ (List.mem_cons_self ..)),bB5 fun x hx=>h x (List.mem_cons_of_mem _ hx)];rfl
def bR9 {k:lS}{v:Int}:∀{l:iM} {j:Nat},(l.map (·.1)).Nodup->l[j]? =some (k,v)->qA l k=v
 |[],_,_,h=>by simp at h|(k',n)::r,0,_,h=>by simp only[List.getElem?_cons_zero,Option.some.injEq,Prod.mk.injEq] at h;rw[qA,if_pos h.1];exact h.2|(k',n)::r,j+1,hn,h=>by simp only[List.map_cons,List.nodup_cons] at hn;simp only[List.getElem?_cons_succ] at h;have bM:k'≠k:=fun e=>hn.1 (List.mem_map.2 ⟨(k,v),List.mem_of_getElem? h,e.symm⟩);rw[qA,if_neg bM];exact bR9 hn.2 h
def bB8 {k:lS}{v n:Int}:∀{l:iM} {j:Nat},(l.map (·.1)).Nodup->l[j]? =some (k,v)->AB l k n=l.set j (k,n)
 |[],_,_,h=>by simp at h|(k',w)::r,0,_,h=>by simp only[List.getElem?_cons_zero,Option.some.injEq,Prod.mk.injEq] at h;rw[AB,if_pos h.1,h.1];rfl|(k',w)::r,j+1,hn,h=>by simp only[List.map_cons,List.nodup_cons] at hn;simp only[List.getElem?_cons_succ] at h;have bM:k'≠k:=fun e=>hn.1 (List.mem_map.2 ⟨(k,v),List.mem_of_getElem? h,e.symm⟩);rw[AB,if_neg bM,bB8 hn.2 h];rfl
def bB4 {k:lS}{v n:Int}:∀{l:iM} {j:Nat},l[j]? =some (k,v)->(l.set j (k,n)).map (·.1)=l.map (·.1)
 |[],_,h=>by simp at h|(k',w)::r,0,h=>by simp only[List.getElem?_cons_zero,Option.some.injEq,Prod.mk.injEq] at h;simp[h.1]|(k',w)::r,j+1,h=>by simp only[List.getElem?_cons_succ] at h;simp[bB4 h]
def fT.nil:fT #[] 0 []:=⟨rfl,by simp,by simp,by simp,by simp⟩
def fT.good {es:Array MapEntry}{clock:Nat}{l:iM}(h:fT es clock l):∀e∈es.toList,∃l,keyOf Tryz.prog 87 e.key=some l:=fun e he=>by obtain⟨j,hj⟩:=List.getElem?_of_mem he;have:=congrArg (fun l=>l[j]?) h.eq;simp only[List.getElem?_map,hj,Option.map_some] at this;cases hl:l[j]? with|none=>rw[hl] at this;cases this|some x=>rw[hl] at this;simp only[Option.map_some,Option.some.injEq,IS,Prod.mk.injEq] at this;rw[this.1];exact bN9 (h.ok x (List.mem_of_getElem? hl))
def fT.at {es:Array MapEntry}{clock:Nat}{l:iM}(h:fT es clock l){j:Nat}{e0:MapEntry}{k:lS}(hj:es.toList[j]? =some e0)(hk:e0.key=jY k):∃v,l[j]? =some (k,v)/\e0.val= .int .i64 v:=by have:=congrArg (fun l=>l[j]?) h.eq;simp only[List.getElem?_map,hj,Option.map_some] at this;cases hl:l[j]? with|none=>rw[hl] at this;cases this|some x=>rw[hl] at this;simp only[Option.map_some,Option.some.injEq,IS,Prod.mk.injEq] at this;have hx:x.1=k:=eD3 (this.1.symm.trans hk);exact⟨x.2,by rw[<-hx],this.2⟩
def fT.no {es:Array MapEntry}{clock:Nat}{l:iM}(h:fT es clock l){k:lS}(hn:∀e∈es.toList,e.key≠jY k):∀x∈l,x.1≠k:=fun x hx e=>by obtain⟨j,hj⟩:=List.getElem?_of_mem hx;have:=congrArg (fun l=>l[j]?) h.eq;simp only[List.getElem?_map,hj,Option.map_some] at this;cases he:es.toList[j]? with|none=>rw[he] at this;cases this|some e0=>rw[he] at this;simp only[Option.map_some,Option.some.injEq,IS,Prod.mk.injEq] at this;exact hn e0 (List.mem_of_getElem? he) (this.1.trans (by rw[e]))
def fT.one {es:Array MapEntry}{clock:Nat}{l:iM}(h:fT es clock l){k:lS}{i j:Nat}{e e':MapEntry}(hi:es.toList[i]? =some e)(hj:es.toList[j]? =some e')(he:e.key=jY k)(uD:e'.key=jY k):i=j:=by
 obtain⟨v,h1,_⟩:=h.at hi he;obtain⟨v',h2,_⟩:=h.at hj uD;have a1:(l.map (·.1))[i]? =some k:=by simp[h1]
 have a2:(l.map (·.1))[j]? =some k:=by simp[h2]
 have bE:i<(l.map (·.1)).length:=(List.getElem?_eq_some_iff.1 a1).1
 exact(List.getElem?_inj bE h.keys).1 (a1.trans a2.symm)
def fT.push {es:Array MapEntry}{clock:Nat}{l:iM}(h:fT es clock l){k:lS}(hk:NZ k)(hn:∀x∈l,x.1≠k)(n:Int):fT (es.push ⟨jY k,.int .i64 n,clock⟩) (clock+1) (l++[(k,n)]):=by refine⟨by simp[h.eq,IS],fun x hx=> ?_,?_,fun x hx=> ?_,?_⟩;simp only[Array.toList_push,List.mem_append,List.mem_singleton] at hx;rcases hx with hx|rfl;have:=h.born x hx;omega;show clock<clock+1;omega;simp only[Array.toList_push,List.map_append,List.map_cons,List.map_nil];refine List.nodup_append.2 ⟨h.nodup,by simp,fun a ha c hc e1=> ?_⟩;simp only[List.mem_singleton] at hc;obtain⟨x,hx,rfl⟩:=List.mem_map.1 ha;have:=h.born x hx;omega;rcases List.mem_append.1 hx with hx|hx;exact h.ok x hx;simp only[List.mem_singleton] at hx;subst hx;exact hk;rw[List.map_append];refine List.nodup_append.2 ⟨h.keys,by simp,fun a ha c hc e1=> ?_⟩;simp only[List.map_cons,List.map_nil,List.mem_singleton] at hc;obtain⟨x,hx,rfl⟩:=List.mem_map.1 ha;exact hn x hx (e1.trans hc)
def fT.set {es:Array MapEntry}{clock:Nat}{l:iM}(h:fT es clock l){k:lS}{j:Nat}{e0:MapEntry}(hj:es.toList[j]? =some e0)(he:e0.key=jY k)(n:Int):fT (es.modify j fun e=>{e with val:= .int .i64 n}) clock (l.set j (k,n)):=by
 obtain⟨v,h1,_⟩:=h.at hj he;have hm:(es.modify j fun e=>{e with val:= .int .i64 n}).toList=es.toList.set j {e0 with val:= .int .i64 n}:=by rw[Array.toList_modify,modify_eq_set _ _ _ _ hj]
 have hb:(es.toList.set j {e0 with val:= .int .i64 n}).map (·.born)=es.toList.map (·.born):=by rw[List.map_set];exact WideElems.set_self _ _ _ (by simp[hj])
 refine⟨?_,fun x hx=> ?_,?_,fun x hx=> ?_,?_⟩;rw[hm,List.map_set,List.map_set,h.eq];simp[IS,he];rw[hm] at hx;rcases List.mem_or_eq_of_mem_set hx with hx|rfl;exact h.born x hx;exact h.born e0 (List.mem_of_getElem? hj);rw[hm,hb];exact h.nodup;rcases List.mem_or_eq_of_mem_set hx with hx|rfl;exact h.ok x hx;exact h.ok (k,v) (List.mem_of_getElem? h1);rw[bB4 h1];exact h.keys
def cY5 {es:Array MapEntry}{clock:Nat}{l:iM}(h:fT es clock l){k:lS}(hk:NZ k)(b:Nat):
  ∃(st:Nat) (es1:Array MapEntry) (AW:Nat),(∀w:World,w.heap[b]? =some (.map es clock)->(Instr.lookup 85 (.map (some b)) (jY k) false).run Tryz.prog w= .ok (.int .i64 (qA l k)) w/\
    (Instr.mapEntry 85 (.map (some b)) (jY k)).run Tryz.prog w= .ok (.tuple #[.int .i64 (qA l k),goInt st]) (setBlock w b (.map es1 AW)))/\
   (∀w:World,w.heap[b]? =some (.map es1 AW)->(Instr.lookup 85 (.map (some b)) (jY k) false).run Tryz.prog w= .ok (.int .i64 (qA l k)) w/\
    ∀n:Int,∃es2 DP,(Instr.entryStore 85 (.map (some b)) (goInt st) (.int .i64 n)).run Tryz.prog w= .ok () (setBlock w b (.map es2 DP))/\fT es2 DP (AB l k n)):=by
 obtain⟨kl,pX⟩:=bN9 hk;have ht:=Tryz.underlying85;by_cases mG:∃e∈es.toList,e.key=jY k;obtain⟨e0,By,pF⟩:=mG;obtain⟨j,hj⟩:=List.getElem?_of_mem By;obtain⟨v,hlj,lL⟩:=h.at hj pF;have hgv:qA l k=v:=bR9 h.keys hlj;have hf:∀w:World,(Instr.findKey 87 (jY k) es.toList).run Tryz.prog w= .ok (some (j,e0.val)) w:=fun w=>by rcases IT.find w pX es.toList h.good with⟨_,h2⟩|⟨j',e1,h1,h2,h3⟩;exact absurd pF (h2 e0 By);obtain rfl:=h.one h2 hj h3 pF;rw[hj] at h2;obtain rfl:=Option.some.inj h2;exact h1
 have jH:es[j]? =some e0:=by simpa using hj
 have RW:es.modify j (fun e=>{e with key:=jY k})=es:=by
  apply Array.ext';rw[Array.toList_modify,modify_eq_set _ _ _ _ hj];have:({e0 with key:=jY k}:MapEntry)=e0:=by rw[<-pF]
  rw[this];exact WideElems.set_self _ _ _ hj
 have Vf:∀w:World,w.heap[b]? =some (.map es clock)->(Instr.lookup 85 (.map (some b)) (jY k) false).run Tryz.prog w= .ok (.int .i64 (qA l k)) w:=fun w hb=>by simp[Instr.lookup,run_underlying ht,MapKept.run_getObj_map hb,IT.check w _ pX,hf w,Result.andThen,lL,hgv]
 refine⟨e0.born,es,clock,fun w hb=>⟨Vf w hb,?_⟩,fun w hb=>⟨Vf w hb,fun n=>⟨es.modify j (fun e=>{e with val:= .int .i64 n}),clock,?_,?_⟩⟩⟩;simp[Instr.mapEntry,run_underlying ht,MapKept.run_getObj_map hb,IT.check w false pX,hf w,jH,pF,IT.stays w pX,RW,MapKept.run_setObj_map _ hb,Result.andThen,setBlock,lL,hgv];have hidx:es.findIdx? (fun e=>((e.born:Nat):Int)==((e0.born:Nat):Int))=some j:=by rw[WideElems.findIdx_arr];exact WideElems.findIdx_born h.nodup hj
 simp[Instr.entryStore,MapKept.run_getObj_map hb,asInt,asIntOf,goInt,hidx,MapKept.run_setObj_map _ hb,Result.andThen,setBlock];rw[bB8 h.keys hlj];exact h.set hj pF n;have dP:∀e∈es.toList,e.key≠jY k:=fun e he hk=>mG ⟨e,he,hk⟩;have IZ:=h.no dP;have h1e:=h.push hk IZ 0;have hf:∀w:World,(Instr.findKey 87 (jY k) es.toList).run Tryz.prog w= .ok none w:=fun w=>by rcases IT.find w pX es.toList h.good with⟨h1,_⟩|⟨j',e1,_,h2,h3⟩;exact h1;exact absurd h3 (dP e1 (List.mem_of_getElem? h2))
 have hf1:∀w:World,∃j,(Instr.findKey 87 (jY k) (es.toList++[⟨jY k,.int .i64 0,clock⟩])).run Tryz.prog w= .ok (some (j,.int .i64 0)) w:=fun w=>by have hg:=h1e.good;rw[Array.toList_push] at hg;rcases IT.find w pX _ hg with⟨_,h2⟩|⟨j',e1,h1,h2,h3⟩;exact absurd rfl (h2 ⟨jY k,.int .i64 0,clock⟩ (by simp));refine⟨j',?_⟩;have hm:=List.mem_of_getElem? h2;rcases List.mem_append.1 hm with hm|hm;exact absurd h3 (dP e1 hm);simp only[List.mem_singleton] at hm;subst hm;exact h1
 have hg0:qA l k=0:=bR8 IZ;refine⟨clock,es.push ⟨jY k,.int .i64 0,clock⟩,clock+1,fun w hb=>⟨?_,?_⟩,fun w hb=>⟨?_,fun n=>⟨es.push ⟨jY k,.int .i64 n,clock⟩,clock+1,?_,?_⟩⟩⟩;simp[Instr.lookup,run_underlying ht,MapKept.run_getObj_map hb,IT.check w _ pX,hf w,Result.andThen,hg0];simp[Instr.mapEntry,run_underlying ht,MapKept.run_getObj_map hb,IT.check w false pX,hf w,MapKept.run_setObj_map _ hb,Result.andThen,setBlock,hg0];obtain⟨j,hf1⟩:=hf1 w;simp[Instr.lookup,run_underlying ht,MapKept.run_getObj_map hb,IT.check w _ pX,hf1,Result.andThen,hg0];have hidx:(es.push ⟨jY k,.int .i64 0,clock⟩).findIdx? (fun e=>((e.born:Nat):Int)==((clock:Nat):Int))=some es.size:=by rw[WideElems.findIdx_arr];exact WideElems.findIdx_born (l:=(es.push ⟨jY k,.int .i64 0,clock⟩).toList) (j:=es.size) (e0:=⟨jY k,.int .i64 0,clock⟩) h1e.nodup (by simp)
 have hmod:(es.push ⟨jY k,.int .i64 0,clock⟩).modify es.size (fun e=>{e with val:= .int .i64 n})=es.push ⟨jY k,.int .i64 n,clock⟩:=by apply Array.ext';rw[Array.toList_modify,Array.toList_push,Array.toList_push,<-Array.length_toList,WideElems.modify_last]
 simp[Instr.entryStore,MapKept.run_getObj_map hb,asInt,asIntOf,goInt,hidx,hmod,MapKept.run_setObj_map _ hb,Result.andThen,setBlock];rw[bB5 IZ];exact h.push hk IZ n
abbrev Pk:=Int×Int×Int
def jK (k:Pk):Value:= .agg #[.int .i64 k.1,.int .i64 k.2.1,.int .i64 k.2.2]
def GG (k:Pk):Prop:=(Lit.int .i64 k.1).wf=true/\(Lit.int .i64 k.2.1).wf=true/\(Lit.int .i64 k.2.2).wf=true
def IU:KeyLaw Tryz.prog 328:=deep_law (m:=2) (by omega) (by kernel_rfl) (by kernel_rfl) (by kernel_rfl)
def Yy {k:Pk}(h:GG k):∃l,keyOf Tryz.prog 328 (jK k)=some l:=by
 unfold keyOf;rw[Tryz.underlying328];simp only;have h1:(Tryz.prog.keyType 328&&(jK k).formed Tryz.prog 328)=true:=by
  have a1:Tryz.prog.keyType 328=true:=by kernel_rfl
  have a2:Tryz.prog.cellsOf 328=3:=by kernel_rfl
  simp[a1,jK,Value.formed,Tryz.underlying328,a2]
 rw[if_pos h1];have hz:(Tryz.prog.types.size==0)=false:=by kernel_rfl
 obtain⟨n,hn⟩:∃n,Tryz.prog.types.size+1=n+2:=⟨Tryz.prog.types.size - 1,by have:=(beq_eq_false_iff_ne.1 hz);omega⟩;rw[hn];have c55:Tryz.prog.cellsOf 328=3:=by kernel_rfl
 have c3:Tryz.prog.cellsOf 3=1:=by kernel_rfl
 have c9:Tryz.prog.cellsOf 9=1:=by kernel_rfl
 have hk:Tryz.prog.keyLits (n+2) 328 (jK k).cells.toList=some [.int .i64 k.1,.int .i64 k.2.1,.int .i64 k.2.2]:=by unfold Program.keyLits;rw[Tryz.underlying328];simp[jK,Value.cells,c55,Program.keyLits,Tryz.underlying3,Tryz.underlying9,c3,c9,h.1,h.2.1,h.2.2]
 rw[hk];exact⟨_,rfl⟩
def dJ2 {a b:Pk}(h:jK a=jK b):a=b:=by simp[jK] at h;exact Prod.ext h.1 (Prod.ext h.2.1 h.2.2)
abbrev qV:=List (Pk×Int)
def OZ (x:Pk×Int):Value×Value:=(jK x.1,.int .i64 x.2)
structure rI (es:Array MapEntry) (clock:Nat) (l:qV):Prop where
 eq:es.toList.map (fun e=>(e.key,e.val))=l.map OZ
 born:∀x∈es.toList,x.born<clock
 nodup:(es.toList.map (·.born)).Nodup
 ok:∀x∈l,GG x.1
 keys:(l.map (·.1)).Nodup
def uI:qV->Pk->Int
 |[],_=>0|(k',n)::r,k=>if k'=k then n else uI r k
def C3:qV->Pk->Int->qV
 |[],k,n=>[(k,n)]|(k',v)::r,k,n=>if k'=k then(k',n)::r else(k',v)::C3 r k n
def aB3 {k:Pk}:∀{l:qV},(∀x∈l,x.1≠k)->uI l k=0
 |[],_=>rfl|(k',n)::r,h=>by rw[uI,if_neg (h _ (List.mem_cons_self ..))];exact aB3 fun x hx=>h x (List.mem_cons_of_mem _ hx)
def bB9 {k:Pk}{n:Int}:∀{l:qV},(∀x∈l,x.1≠k)->C3 l k n=l++[(k,n)]
 |[],_=>rfl|(k',v)::r,h=>by rw[C3,if_neg (h _ (List.mem_cons_self ..)),bB9 fun x hx=>h x (List.mem_cons_of_mem _ hx)];rfl
def bS0 {k:Pk}{v:Int}:∀{l:qV} {j:Nat},(l.map (·.1)).Nodup->l[j]? =some (k,v)->uI l k=v
 |[],_,_,h=>by simp at h|(k',n)::r,0,_,h=>by simp only[List.getElem?_cons_zero,Option.some.injEq,Prod.mk.injEq] at h;rw[uI,if_pos h.1];exact h.2|(k',n)::r,j+1,hn,h=>by simp only[List.map_cons,List.nodup_cons] at hn;simp only[List.getElem?_cons_succ] at h;have bM:k'≠k:=fun e=>hn.1 (List.mem_map.2 ⟨(k,v),List.mem_of_getElem? h,e.symm⟩);rw[uI,if_neg bM];exact bS0 hn.2 h
def bC1 {k:Pk}{v n:Int}:∀{l:qV} {j:Nat},(l.map (·.1)).Nodup->l[j]? =some (k,v)->C3 l k n=l.set j (k,n)
 |[],_,_,h=>by simp at h|(k',w)::r,0,_,h=>by simp only[List.getElem?_cons_zero,Option.some.injEq,Prod.mk.injEq] at h;rw[C3,if_pos h.1,h.1];rfl|(k',w)::r,j+1,hn,h=>by simp only[List.map_cons,List.nodup_cons] at hn;simp only[List.getElem?_cons_succ] at h;have bM:k'≠k:=fun e=>hn.1 (List.mem_map.2 ⟨(k,v),List.mem_of_getElem? h,e.symm⟩);rw[C3,if_neg bM,bC1 hn.2 h];rfl
def bC0 {k:Pk}{v n:Int}:∀{l:qV} {j:Nat},l[j]? =some (k,v)->(l.set j (k,n)).map (·.1)=l.map (·.1)
 |[],_,h=>by simp at h|(k',w)::r,0,h=>by simp only[List.getElem?_cons_zero,Option.some.injEq,Prod.mk.injEq] at h;simp[h.1]|(k',w)::r,j+1,h=>by simp only[List.getElem?_cons_succ] at h;simp[bC0 h]
def rI.nil:rI #[] 0 []:=⟨rfl,by simp,by simp,by simp,by simp⟩
def rI.good {es:Array MapEntry}{clock:Nat}{l:qV}(h:rI es clock l):∀e∈es.toList,∃l,keyOf Tryz.prog 328 e.key=some l:=fun e he=>by obtain⟨j,hj⟩:=List.getElem?_of_mem he;have:=congrArg (fun l=>l[j]?) h.eq;simp only[List.getElem?_map,hj,Option.map_some] at this;cases hl:l[j]? with|none=>rw[hl] at this;cases this|some x=>rw[hl] at this;simp only[Option.map_some,Option.some.injEq,OZ,Prod.mk.injEq] at this;rw[this.1];exact Yy (h.ok x (List.mem_of_getElem? hl))
def rI.at {es:Array MapEntry}{clock:Nat}{l:qV}(h:rI es clock l){j:Nat}{e0:MapEntry}{k:Pk}(hj:es.toList[j]? =some e0)(hk:e0.key=jK k):∃v,l[j]? =some (k,v)/\e0.val= .int .i64 v:=by have:=congrArg (fun l=>l[j]?) h.eq;simp only[List.getElem?_map,hj,Option.map_some] at this;cases hl:l[j]? with|none=>rw[hl] at this;cases this|some x=>rw[hl] at this;simp only[Option.map_some,Option.some.injEq,OZ,Prod.mk.injEq] at this;have hx:x.1=k:=dJ2 (this.1.symm.trans hk);exact⟨x.2,by rw[<-hx],this.2⟩
def rI.no {es:Array MapEntry}{clock:Nat}{l:qV}(h:rI es clock l){k:Pk}(hn:∀e∈es.toList,e.key≠jK k):∀x∈l,x.1≠k:=fun x hx e=>by obtain⟨j,hj⟩:=List.getElem?_of_mem hx;have:=congrArg (fun l=>l[j]?) h.eq;simp only[List.getElem?_map,hj,Option.map_some] at this;cases he:es.toList[j]? with|none=>rw[he] at this;cases this|some e0=>rw[he] at this;simp only[Option.map_some,Option.some.injEq,OZ,Prod.mk.injEq] at this;exact hn e0 (List.mem_of_getElem? he) (this.1.trans (by rw[e]))
def cE6 (w:World):(zeroValue 3).run Tryz.prog w= .ok (.int .i64 0) w:=by
 have h:(Tryz.prog.info? 3).map (·.zero)=some (some (.int .i64 0)):=by kernel_rfl
 cases hi:Tryz.prog.info? 3 with|none=>rw[hi] at h;cases h|some i=>rw[hi] at h;simp only[Option.map_some,Option.some.injEq] at h;simp[zeroValue,typeInfo,hi,h]
def rI.one {es:Array MapEntry}{clock:Nat}{l:qV}(h:rI es clock l){k:Pk}{i j:Nat}{e e':MapEntry}(hi:es.toList[i]? =some e)(hj:es.toList[j]? =some e')(he:e.key=jK k)(uD:e'.key=jK k):i=j:=by
 obtain⟨v,h1,_⟩:=h.at hi he;obtain⟨v',h2,_⟩:=h.at hj uD;have a1:(l.map (·.1))[i]? =some k:=by simp[h1]
 have a2:(l.map (·.1))[j]? =some k:=by simp[h2]
 have bE:i<(l.map (·.1)).length:=(List.getElem?_eq_some_iff.1 a1).1
 exact(List.getElem?_inj bE h.keys).1 (a1.trans a2.symm)
def rI.push {es:Array MapEntry}{clock:Nat}{l:qV}(h:rI es clock l){k:Pk}(hk:GG k)(hn:∀x∈l,x.1≠k)(n:Int):rI (es.push ⟨jK k,.int .i64 n,clock⟩) (clock+1) (l++[(k,n)]):=by refine⟨by simp[h.eq,OZ],fun x hx=> ?_,?_,fun x hx=> ?_,?_⟩;simp only[Array.toList_push,List.mem_append,List.mem_singleton] at hx;rcases hx with hx|rfl;have:=h.born x hx;omega;show clock<clock+1;omega;simp only[Array.toList_push,List.map_append,List.map_cons,List.map_nil];refine List.nodup_append.2 ⟨h.nodup,by simp,fun a ha c hc e1=> ?_⟩;simp only[List.mem_singleton] at hc;obtain⟨x,hx,rfl⟩:=List.mem_map.1 ha;have:=h.born x hx;omega;rcases List.mem_append.1 hx with hx|hx;exact h.ok x hx;simp only[List.mem_singleton] at hx;subst hx;exact hk;rw[List.map_append];refine List.nodup_append.2 ⟨h.keys,by simp,fun a ha c hc e1=> ?_⟩;simp only[List.map_cons,List.map_nil,List.mem_singleton] at hc;obtain⟨x,hx,rfl⟩:=List.mem_map.1 ha;exact hn x hx (e1.trans hc)
def rI.set {es:Array MapEntry}{clock:Nat}{l:qV}(h:rI es clock l){k:Pk}{j:Nat}{e0:MapEntry}(hj:es.toList[j]? =some e0)(he:e0.key=jK k)(n:Int):rI (es.modify j fun e=>{e with val:= .int .i64 n}) clock (l.set j (k,n)):=by
 obtain⟨v,h1,_⟩:=h.at hj he;have hm:(es.modify j fun e=>{e with val:= .int .i64 n}).toList=es.toList.set j {e0 with val:= .int .i64 n}:=by rw[Array.toList_modify,modify_eq_set _ _ _ _ hj]
 have hb:(es.toList.set j {e0 with val:= .int .i64 n}).map (·.born)=es.toList.map (·.born):=by rw[List.map_set];exact WideElems.set_self _ _ _ (by simp[hj])
 refine⟨?_,fun x hx=> ?_,?_,fun x hx=> ?_,?_⟩;rw[hm,List.map_set,List.map_set,h.eq];simp[OZ,he];rw[hm] at hx;rcases List.mem_or_eq_of_mem_set hx with hx|rfl;exact h.born x hx;exact h.born e0 (List.mem_of_getElem? hj);rw[hm,hb];exact h.nodup;rcases List.mem_or_eq_of_mem_set hx with hx|rfl;exact h.ok x hx;exact h.ok (k,v) (List.mem_of_getElem? h1);rw[bC0 h1];exact h.keys
def dW3 {es:Array MapEntry}{clock:Nat}{l:qV}(h:rI es clock l){k:Pk}(hk:GG k)(b:Nat)(w:World)(hb:w.heap[b]? =some (.map es clock)):(Instr.lookup 325 (.map (some b)) (jK k) false).run Tryz.prog w= .ok (.int .i64 (uI l k)) w:=by
 obtain⟨kl,pX⟩:=Yy hk;have ht:=Tryz.underlying325;by_cases mG:∃e∈es.toList,e.key=jK k;obtain⟨e0,By,pF⟩:=mG;obtain⟨j,hj⟩:=List.getElem?_of_mem By;obtain⟨v,hlj,lL⟩:=h.at hj pF;have hgv:uI l k=v:=bS0 h.keys hlj;have hf:(Instr.findKey 328 (jK k) es.toList).run Tryz.prog w= .ok (some (j,e0.val)) w:=by rcases IU.find w pX es.toList h.good with⟨_,h2⟩|⟨j',e1,h1,h2,h3⟩;exact absurd pF (h2 e0 By);obtain rfl:=h.one h2 hj h3 pF;rw[hj] at h2;obtain rfl:=Option.some.inj h2;exact h1
 simp[Instr.lookup,run_underlying ht,MapKept.run_getObj_map hb,IU.check w _ pX,hf,Result.andThen,lL,hgv];have dP:∀e∈es.toList,e.key≠jK k:=fun e he hk=>mG ⟨e,he,hk⟩;have IZ:=h.no dP;have hf:(Instr.findKey 328 (jK k) es.toList).run Tryz.prog w= .ok none w:=by rcases IU.find w pX es.toList h.good with⟨h1,_⟩|⟨j',e1,_,h2,h3⟩;exact h1;exact absurd h3 (dP e1 (List.mem_of_getElem? h2))
 have hg0:uI l k=0:=aB3 IZ;simp[Instr.lookup,run_underlying ht,MapKept.run_getObj_map hb,IU.check w _ pX,hf,cE6 w,Result.andThen,hg0]
def aS4 {es:Array MapEntry}{clock:Nat}{l:qV}(h:rI es clock l){k:Pk}(hk:GG k)(n:Int):∃(es1:Array MapEntry) (AW:Nat),rI es1 AW (C3 l k n)/\∀(b:Nat) (w:World),w.heap[b]? =some (.map es clock)->(Instr.mapUpdate 325 (.map (some b)) (jK k) (.int .i64 n)).run Tryz.prog w= .ok () (setBlock w b (.map es1 AW)):=by
 obtain⟨kl,pX⟩:=Yy hk;have ht:=Tryz.underlying325;by_cases mG:∃e∈es.toList,e.key=jK k;obtain⟨e0,By,pF⟩:=mG;obtain⟨j,hj⟩:=List.getElem?_of_mem By;obtain⟨v,hlj,lL⟩:=h.at hj pF;have hf:∀w:World,(Instr.findKey 328 (jK k) es.toList).run Tryz.prog w= .ok (some (j,e0.val)) w:=fun w=>by rcases IU.find w pX es.toList h.good with⟨_,h2⟩|⟨j',e1,h1,h2,h3⟩;exact absurd pF (h2 e0 By);obtain rfl:=h.one h2 hj h3 pF;rw[hj] at h2;obtain rfl:=Option.some.inj h2;exact h1
 have jH:es[j]? =some e0:=by simpa using hj
 have RW:es.modify j (fun e=>{e with key:=jK k,val:= .int .i64 n})=es.modify j (fun e=>{e with val:= .int .i64 n}):=by
  apply Array.ext';rw[Array.toList_modify,Array.toList_modify,modify_eq_set _ _ _ _ hj,modify_eq_set _ _ _ _ hj];have:({e0 with key:=jK k,val:= .int .i64 n}:MapEntry)={e0 with val:= .int .i64 n}:=by rw[<-pF]
  rw[this]
 refine⟨es.modify j (fun e=>{e with val:= .int .i64 n}),clock,?_,fun b w hb=> ?_⟩;rw[bC1 h.keys hlj];exact h.set hj pF n;simp[Instr.mapUpdate,run_underlying ht,MapKept.run_getObj_map hb,IU.check w false pX,hf w,jH,pF,IU.stays w pX,RW,MapKept.run_setObj_map _ hb,Result.andThen,setBlock];have dP:∀e∈es.toList,e.key≠jK k:=fun e he hk=>mG ⟨e,he,hk⟩;have IZ:=h.no dP;have hf:∀w:World,(Instr.findKey 328 (jK k) es.toList).run Tryz.prog w= .ok none w:=fun w=>by rcases IU.find w pX es.toList h.good with⟨h1,_⟩|⟨j',e1,_,h2,h3⟩;exact h1;exact absurd h3 (dP e1 (List.mem_of_getElem? h2))
 refine⟨es.push ⟨jK k,.int .i64 n,clock⟩,clock+1,?_,fun b w hb=> ?_⟩;rw[bB9 IZ];exact h.push hk IZ n;simp[Instr.mapUpdate,run_underlying ht,MapKept.run_getObj_map hb,IU.check w false pX,hf w,MapKept.run_setObj_map _ hb,Result.andThen,setBlock]
def Vj {l:qV}{k k':Pk}{n:Int}:uI (C3 l k n) k'=if k=k' then n else uI l k':=by induction l with|nil=>rfl|cons x r ih=>obtain⟨q,v⟩:=x;unfold C3;by_cases h:q=k;subst h;rw[if_pos rfl];unfold uI;split<;>rfl;rw[if_neg h];unfold uI;by_cases h2:q=k';rw[if_pos h2,if_pos h2];subst h2;rw[if_neg (fun e=>h e.symm)];rw[if_neg h2,if_neg h2,ih]
end Go.Proofs.YtdlpbedneamebaaGreatDoor
