/-
A part of the proof of the last text.
-/
import Derived.Test.YtdlpbedneamebaaGreatDoorDayT
import Derived.Test.YtdlpbedneamebaaGreatDoorTU
set_option linter.all false
namespace Go.Proofs.YtdlpbedneamebaaGreatDoor
open Go.RowKit Go.VM Go.Shelf
def tuS (fr to:Int)(s:Int×Int)(x:aW×Int):Int×Int:=if x.1.booked<fr\/to<x.1.booked then s else if 0<x.2 then(wrap64 (s.1+x.2),s.2) else(s.1,wrap64 (s.2 - x.2))
def Jc (a fr to:Int)(l:List aW):Int×Int:=(mv a l).foldl (tuS fr to) (0,0)
def aF2 (fr to:Int)(l:List Int)(x:aW×Int):List Int:=if x.1.value<=to then l.set (max fr x.1.value - fr).toNat (wrap64 (l.getD (max fr x.1.value - fr).toNat 0 - x.2)) else l
def WA (a fr to:Int)(l:List aW):List Int:=(mv a l).foldl (aF2 fr to) (List.replicate (to - fr+1).toNat 0)
def SE (a fr to:Int)(l:List aW):List Int:=if KZ fr to then Fj (WA a fr to l) ((to - fr+1).toNat - 1) else[]
def cN4 (a fr to:Int)(es:List Ev):AA fr to (nB a es)=Jc a fr to (es.map AP):=by unfold Jc;rw[<-ZW,Tp];rfl
def eT3 (a fr to:Int)(es:List Ev):AU fr to (nB a es)=WA a fr to (es.map AP):=by unfold WA;rw[<-ZW,Tp];rfl
def cB7 {S:Nat->Prop}{w:World}{vs:List Value}{x:V}{n m k:Int}(h:aX S w vs [x,.i .i64 n,.i .i64 m,.i .i64 k]):∃v,vs=[v,.int .i64 n,.int .i64 m,.int .i64 k]/\aP S w v x:=by
 match vs,h with|[v,u,u',u''],h=>have h1:=h.tail.head;have h2:=h.tail.tail.head;have h3:=h.tail.tail.tail.head;cases h1;cases h2;cases h3;exact⟨v,rfl,h.head⟩|[],h=>exact absurd h.1 (by simp)|[_],h=>exact absurd h.1 (by simp)|[_,_],h=>exact absurd h.1 (by simp)|[_,_,_],h=>exact absurd h.1 (by simp)|_::_::_::_::_::_,h=>exact absurd h.1 (by simp)
def cN5 {l:List aW}{a fr to:Int}(hj:jok l=true):PF Tryz.prog 192 [.l (ents l),.i .i64 a,.i .i64 fr,.i .i64 to] (.t [.i .i64 (Jc a fr to l).1,.i .i64 (Jc a fr to l).2]):=by intro S w vs hS _ hr;obtain⟨v,rfl,hv⟩:=cB7 hr;obtain⟨ad,c,es,rfl,he,hE,h1,h2⟩:=journal hS hv hj;refine Jt (u:= .tuple #[.int .i64 (Jc a fr to l).1,.int .i64 (Jc a fr to l).2]) hS (fun w'=>⟨[.int .i64 (Jc a fr to l).1,.int .i64 (Jc a fr to l).2],rfl,rfl,fun j u y hu hy=> ?_,fun i j u u' y y' g _ _ _ hy _ ho _=> ?_⟩) ?_;rcases j with _|_|j;simp at hu hy;subst hu;subst hy;exact .i _ _;simp at hu hy;subst hu;subst hy;exact .i _ _;simp at hu;rcases i with _|_|i;simp at hy;subst hy;simp[V.isOwn] at ho;simp at hy;subst hy;simp[V.isOwn] at ho;simp at hy;have h:=callsIn_wide.1 (cN3 Fence.wide 3 trivial trivial trivial rfl (by omega) ad c a fr to es w (by omega) (fun e he=>by have:=h2 e he;omega) hE);rw[cN4,he] at h;exact h
def eT4 {l:List aW}{a fr to:Int}(hj:jok l=true):PF Tryz.prog 190 [.l (ents l),.i .i64 a,.i .i64 fr,.i .i64 to] (.ow 3 (bQ (SE a fr to l))):=by
 intro S w vs hS _ hr;obtain⟨v,rfl,hv⟩:=cB7 hr;obtain⟨ad,c,es,rfl,he,hE,h1,h2⟩:=journal hS hv hj;have hc3:Tryz.prog.cellsOf 3=1:=by kernel_rfl
 refine bG9 hS hc3 (fun x hx=>by rw[<-hc3];exact Zw hc3 _ x hx) (Zx _) (vals:=(SE a fr to l).map (Value.int .i64)) (fun S w'=>by rw[Vo];exact bP5 _) ?_;rw[Zi];unfold SE;by_cases cR:KZ fr to;rw[aY cR];have h:=callsIn_wide.1 (eT2 3 (by omega) ad c a fr to es w (by omega) (fun e he=>by have:=h2 e he;omega) hE cR);have Av:=aF3 fr to (nB a es);rw[eT3,he] at h Av;rw[aF1,Av];exact h;rw[aK cR];refine(callsIn_wide.1 (eT1 3 (by omega) _ a fr to w cR)).mono fun ex w' ⟨hx,hb⟩=>⟨_,hx,LJ _ _ _ _,hb⟩
end Go.Proofs.YtdlpbedneamebaaGreatDoor
