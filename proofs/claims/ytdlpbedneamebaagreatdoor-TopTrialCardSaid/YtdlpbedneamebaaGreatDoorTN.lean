/-
Plain laws and walks: part of the proof of the last text.
-/
import Derived.Test.YtdlpbedneamebaaGreatDoorTM
set_option linter.all false
namespace Go.Proofs.YtdlpbedneamebaaGreatDoor
open Go.VM
def zN {α:Type}{f:α->V}(hf:∀x y,f x=f y->x=y){l k:List α}:aB f l=aB f k↔l=k:=by refine⟨fun h=> ?_,fun h=>by rw[h]⟩;exact(List.map_inj_right hf).1 h
def bP6 {l k:List Int}:aB (V.i .i64) l=aB (V.i .i64) k↔l=k:=zN fun x y h=>by simpa using h
def gR.inj (x y:gR)(h:x.v=y.v):x=y:=by cases x;cases y;simp at h;simp[h]
def gR.enc {l k:List gR}:aB gR.v l=aB gR.v k↔l=k:=zN gR.inj
def iB.inj (x y:iB)(h:x.v=y.v):x=y:=by cases x;cases y;simp[bP6] at h;simp[h]
def iB.enc {l k:List iB}:aB iB.v l=aB iB.v k↔l=k:=zN iB.inj
def Gl.inj (x y:Gl)(h:x.v=y.v):x=y:=by cases x;cases y;simp at h;simp[h]
def Gl.enc {l k:List Gl}:aB Gl.v l=aB Gl.v k↔l=k:=zN Gl.inj
def nU.inj (x y:nU)(h:x.v=y.v):x=y:=by cases x;cases y;simp at h;simp[h]
def nU.enc {l k:List nU}:aB nU.v l=aB nU.v k↔l=k:=zN nU.inj
def k5.inj (x y:k5)(h:x.v=y.v):x=y:=by cases x;cases y;simp at h;simp[h]
def k5.enc {l k:List k5}:aB k5.v l=aB k5.v k↔l=k:=zN k5.inj
def rJ.inj (x y:rJ)(h:x.v=y.v):x=y:=by cases x;cases y;simp at h;simp[h]
def rJ.enc {l k:List rJ}:aB rJ.v l=aB rJ.v k↔l=k:=zN rJ.inj
def nV.inj (x y:nV)(h:x.v=y.v):x=y:=by cases x;cases y;rename_i a b c d e f g i;cases c;cases d;cases g;cases i;simp at h;simp[h]
def nV.enc {l k:List nV}:aB nV.v l=aB nV.v k↔l=k:=zN nV.inj
def kS.inj (x y:kS)(h:x.v=y.v):x=y:=by cases x;cases y;rename_i a b c d e f;cases c;cases f;simp at h;simp[h]
def kS.enc {l k:List kS}:aB kS.v l=aB kS.v k↔l=k:=zN kS.inj
def dO.inj (x y:dO)(h:x.v=y.v):x=y:=by cases x;cases y;rename_i a1 a2 a3 a4 a5 a6 a7 a8 a9 a10 a11 b1 b2 b3 b4 b5 b6 b17 b8 b36 b38 b79;cases a8;cases a9;cases b8;cases b36;simp[k5.enc,nV.enc,kS.enc] at h;simp[h]
def dO.enc {l k:List dO}:aB dO.v l=aB dO.v k↔l=k:=zN dO.inj
def iN.inj (x y:iN)(h:x.v=y.v):x=y:=by cases x;cases y;simp at h;simp[h]
def iN.enc {l k:List iN}:aB iN.v l=aB iN.v k↔l=k:=zN iN.inj
def bG.inj (x y:bG)(h:x.v=y.v):x=y:=by cases x;cases y;simp at h;simp[h]
def bG.enc {l k:List bG}:aB bG.v l=aB bG.v k↔l=k:=zN bG.inj
def aW.inj (x y:aW)(h:x.v=y.v):x=y:=by cases x;cases y;simp[bG.enc] at h;simp[h]
def aW.enc {l k:List aW}:aB aW.v l=aB aW.v k↔l=k:=zN aW.inj
def fS.inj (x y:fS)(h:x.v=y.v):x=y:=by cases x;cases y;simp at h;simp[h]
def fS.enc {l k:List fS}:aB fS.v l=aB fS.v k↔l=k:=zN fS.inj
def cF.inj (x y:cF)(h:x.v=y.v):x=y:=by cases x;cases y;simp at h;simp[h]
def cF.enc {l k:List cF}:aB cF.v l=aB cF.v k↔l=k:=zN cF.inj
def kT.inj (x y:kT)(h:x.v=y.v):x=y:=by cases x;cases y;simp[bP6] at h;simp[h]
def kT.enc {l k:List kT}:aB kT.v l=aB kT.v k↔l=k:=zN kT.inj
def cD.inj (x y:cD)(h:x.v=y.v):x=y:=by cases x;cases y;rename_i a1 a2 a3 a4 a5 a6 a7 a8 a9 b1 b2 b3 b4 b5 b6 b17 b8 b36;cases a4;cases b4;simp[gR.enc,iB.enc,Gl.enc,dO.enc,iN.enc,aW.enc,fS.enc,cF.enc] at h;simp[h]
def cD.enc {l k:List cD}:aB cD.v l=aB cD.v k↔l=k:=zN cD.inj
end Go.Proofs.YtdlpbedneamebaaGreatDoor
namespace Go.Proofs.YtdlpbedneamebaaGreatDoor
open Go.VM
variable {X:aU}
abbrev w (n:Int):Int:=IntKind.i64.wrap n
@[simp] def fJ5 {aA:aG}{K W:List V}(t:Nat):C4 aA t (some (.mp K W))=some (.mp K W,put t .ud aA):=rfl
def aR8 (n:Int): -9223372036854775808<=w n/\w n<=9223372036854775807:=by simp only[w,oV];omega
def Sq (l:List gR)(c:List UInt8)(i:Nat):Option gR:=match l[i]? with|some x=>if x.code=c then some x else none|none=>none
def Ff (l:List gR)(c:List UInt8):Option gR:=(List.range l.length).findSome? (Sq l c)
def c0:gR:=⟨[],0⟩
def cV:Option gR->V
 |some g=> .t [g.v,.b true]|none=> .t [c0.v,.b false]
def l21 (l:List gR)(c:List UInt8)(h:l.length<=1000):bP (O X) [1,4,8,9,10] TG [(1,.s c),(4,.bx c0.cells),(8,.l (CF l)),(9,.i .i64 l.length),(10,.i .i64 0)]=some (oM (fun g=>(.r,[(4,.bx g.cells),(5,.b true)])) (.e 0,[(4,.bx c0.cells)]) (Ff l c)):=by
 have:=wK (o:=O X) (kin:=[1,4,8,9,10]) (c:=TG) (fun i=>[(1,.s c),(4,.bx c0.cells),(8,.l (CF l)),(9,.i .i64 l.length),(10,.i .i64 i)]) l.length (Sq l c) (fun g=>(.r,[(4,.bx g.cells),(5,.b true)])) (.e 0,[(4,.bx c0.cells)]) (by simp) (by simp) (fun i hi=>by
  have hw:=bC (i+1) (by omega);by_cases hc:l[i].code=c<;>simp[TG,hi,hw,Sq,hc]) (by simp[TG]) (by simp)
 exact this
def e21 (l:List gR)(c:List UInt8)(h:l.length<=1000):O X 21 [.l (CF l),.s c]=some (cV (Ff l c)):=by refine aI (fc:=KN) rfl rfl rfl ?_;have hl:=l21 (X:=X) l c h;cases hq:Ff l c<;>rw[hq] at hl<;>simp[c0] at hl<;>simp[KN,bA,hl,cV,c0]
def eC6 (l:List gR)(c:List UInt8)(h:l.length<=1000):bP (O X) [0,1,4,6] TS [(0,.l (CF l)),(1,.s c),(4,.bx c0.cells),(6,.i .i64 0)]=some (oM (fun g=>(.r,[(4,.bx g.cells),(5,.b true)])) (.e 0,[(4,.bx c0.cells)]) (Ff l c)):=by
 have:=wK (o:=O X) (kin:=[0,1,4,6]) (c:=TS) (fun i=>[(0,.l (CF l)),(1,.s c),(4,.bx c0.cells),(6,.i .i64 i)]) l.length (Sq l c) (fun g=>(.r,[(4,.bx g.cells),(5,.b true)])) (.e 0,[(4,.bx c0.cells)]) (by simp) (by simp) (fun i hi=>by
  have hw:=bC (i+1) (by omega);by_cases hc:l[i].code=c<;>simp[TS,hi,hw,Sq,hc]) (by simp[TS]) (by simp)
 exact this
def aD0 (l:List gR)(c:List UInt8)(h:l.length<=1000):O X 129 [.l (CF l),.s c]=some (cV (Ff l c)):=by refine aI (fc:=EG) rfl rfl rfl ?_;have hl:=eC6 (X:=X) l c h;cases hq:Ff l c<;>rw[hq] at hl<;>simp[c0] at hl<;>simp[EG,bA,hl,cV,c0]
structure Cell where
 row:List UInt8
 currency:List UInt8
 amount:Int
 deriving DecidableEq
abbrev Cell.cells (x:Cell):List V:=[.s x.row,.s x.currency,.i .i64 x.amount]
abbrev Cell.v (x:Cell):V:= .a ([.s x.row,.s x.currency,.i .i64 x.amount])
@[simp] def Cell.all_len (l:List Cell):(aB Cell.v l).all (fun x=>x.cells.length==3)=true:=mU fun _=>rfl
@[simp] def Cell.len_all (l:List Cell):(∀x∈aB Cell.v l,x.cells.length=3)=True:=qB fun _=>rfl
end Go.Proofs.YtdlpbedneamebaaGreatDoor
