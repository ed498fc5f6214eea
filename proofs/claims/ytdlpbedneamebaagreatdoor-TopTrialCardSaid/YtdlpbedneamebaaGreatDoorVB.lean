/-
A part of the proof of the last text.
-/
import Derived.Test.YtdlpbedneamebaaGreatDoorVA
set_option linter.all false
namespace Go.VM
def Y3 (f:aG->Option (Ex×aG)):∀(n:Nat) (aA:aG) r,nA f n aA=some r->∀m,n<=m->nA f m aA=some r
 |0,_,_,h,_,_=>by simp[nA] at h|n+1,aA,r,h,m,hm=>by obtain⟨m,rfl⟩:∃k,m=k+1:=⟨m - 1,by omega⟩;simp only[nA] at h⊢;cases hf:f aA with|none=>rw[hf] at h;simp at h|some p=>rw[hf] at h;obtain⟨e,aN⟩:=p;cases e with|n=>simp only[aZ] at h⊢;exact Y3 f n aN r h m (by omega)|e id=>simpa using h|r=>simpa using h
def RJ {f:aG->Option (Ex×aG)}{n:Nat}{aA:aG}{r:Ex×aG}(h:nA f n aA=some r):C8 f aA=some r:=by have hx:∃n,(nA f n aA).isSome=true:=⟨n,by simp[h]⟩;unfold C8;rw[H2 hx];have hc:=EV hx;cases hr:nA f (Classical.choose hx) aA with|none=>rw[hr] at hc;simp at hc|some r'=>have h1:=Y3 f _ aA r h (max n (Classical.choose hx)) (Nat.le_max_left _ _);have h2:=Y3 f _ aA r' hr (max n (Classical.choose hx)) (Nat.le_max_right _ _);rw[h1] at h2;exact h2.symm
def dV2 (f:aG->Option (Ex×aG))(aA:aG):C8 f aA=(f aA).bind fun p=>match p.1 with| .n=>C8 f p.2|e=>some (e,p.2):=by
 cases hf:f aA with
 |none=>unfold C8;rw[LL];rfl;rintro⟨n,hn⟩;cases n with|zero=>simp[nA] at hn|succ n=>simp[nA,hf] at hn
 |some p=>
  obtain⟨e,aN⟩:=p;have mG:∀e',e'≠Ex.n->e=e'->C8 f aA=some (e,aN):=by intro e' uD he;refine RJ (n:=1) ?_;simp only[nA,hf,aZ];cases e<;>simp_all
  cases e with
  |n=>
   simp only[aZ];by_cases h:∃n,(nA f n aN).isSome=true;obtain⟨n,hn⟩:=h;cases hr:nA f n aN with|none=>rw[hr] at hn;simp at hn|some r=>rw[RJ hr];refine RJ (n:=n+1) ?_;simp[nA,hf,hr]
   have h':¬∃n,(nA f n aA).isSome=true:=by rintro⟨n,hn⟩;cases n with|zero=>simp[nA] at hn|succ n=>exact h ⟨n,by simpa[nA,hf] using hn⟩
   unfold C8;rw[LL h,LL h']
  |e id=>simpa using mG (.e id) (by simp) rfl|r=>simpa using mG .r (by simp) rfl
noncomputable def IC (o:aU)(b:C)(r:Option (Ex×aG)):Option (Ex×aG):=r.bind fun p=>match p.1 with| .n=>bI o b p.2|e=>some (e,p.2)
noncomputable def PT (o:aU)(a b:C)(aA:aG)(r:Option V):Option (Ex×aG):=r.bind fun v=>match v with| .b t=>if t then bI o a aA else bI o b aA|_=>none
def Kf (id:Nat)(r:Option (Ex×aG)):Option (Ex×aG):=r.bind fun p=>match p.1 with| .e j=>if j=id then some (.n,p.2) else some (.e j,p.2)|e=>some (e,p.2)
noncomputable def C9 (o:aU)(kin:List Nat)(c:C)(aA:aG):Option (Ex×aG):=C8 (fun e=>bI o c (keepE kin e)) aA
noncomputable def Jo (o:aU)(kin:List Nat)(c:C)(r:Option (Ex×aG)):Option (Ex×aG):=r.bind fun p=>match p.1 with| .n=>C9 o kin c p.2|e=>some (e,p.2)
section
variable (o:aU) (aA:aG)
@[simp] def gH0:bI o .skip aA=some (.n,aA):=by simp[bI]
@[simp] def eP3 (a b:C):bI o (.seq a b) aA=IC o b (bI o a aA):=by simp only[bI,IC];cases bI o a aA with|none=>rfl|some p=>obtain⟨e,aN⟩:=p;cases e<;>rfl
@[simp] def gH3 (rs:List (Nat×X)):bI o (.q rs) aA=(wJ o aA rs aA).map fun e=>(.n,e):=by simp only[bI];cases wJ o aA rs aA<;>rfl
@[simp] def gH1 (ss:List St)(ks:List Nat):bI o (.s ss ks) aA=(nM o ss aA).map fun e=>(.n,dropE ks e):=by simp only[bI];cases nM o ss aA<;>rfl
@[simp] def gH7 (ss:List St)(af:List (List Nat))(ks:List Nat):bI o (.d ss af ks) aA=(KX o ss af aA).map fun e=>(.n,dropE ks e):=by simp only[bI];cases KX o ss af aA<;>rfl
@[simp] def gH6 (ss:List gX)(af:List (List Nat))(ks:List Nat):bI o (.dg ss af ks) aA=(Fi o ss af aA).map fun e=>(.n,dropE ks e):=by simp only[bI];cases Fi o ss af aA<;>rfl
@[simp] def gH4 (ss:List gX)(ks:List Nat):bI o (.g ss ks) aA=(C2 o ss aA).map fun e=>(.n,dropE ks e):=by simp only[bI];cases C2 o ss aA<;>rfl
@[simp] def gH8 (x:X)(a b:C):bI o (.cond x a b) aA=PT o a b aA (dJ o aA x):=by simp only[bI,PT];cases dJ o aA x with|none=>rfl|some v=>cases v<;>rfl
@[simp] def gH9 (id:Nat)(c:C):bI o (.blk id c) aA=Kf id (bI o c aA):=by simp only[bI,Kf];cases bI o c aA with|none=>rfl|some p=>obtain⟨e,aN⟩:=p;cases e<;>rfl
def eP4 (kin:List Nat)(c:C):bI o (.loop kin c) aA=C9 o kin c aA:=by simp only[bI,C9]
@[simp] def gH5 (id:Nat)(ks:List Nat):bI o (.exit id ks) aA=some (.e id,keepE ks aA):=by simp only[bI]
@[simp] def gH2 (ks:List Nat):bI o (.ret ks) aA=some (.r,keepE ks aA):=by simp only[bI]
@[simp] def fH4 (b:C):IC o b (some (.n,aA))=bI o b aA:=rfl
@[simp] def fH6 (b:C)(id:Nat):IC o b (some (.e id,aA))=some (.e id,aA):=rfl
@[simp] def fH2 (b:C):IC o b (some (.r,aA))=some (.r,aA):=rfl
@[simp] def fH3 (b:C):IC o b none=none:=rfl
@[simp] def fH5 (b:C)(c:Prop)[Decidable c](x y:Option (Ex×aG)):IC o b (if c then x else y)=if c then IC o b x else IC o b y:=by split<;>rfl
@[simp] def gL0 (a b:C)(t:Bool):PT o a b aA (some (.b t))=if t=true then bI o a aA else bI o b aA:=rfl
@[simp] def gK9 (a b:C)(c:Prop)[Decidable c](x y:Option V):PT o a b aA (if c then x else y)=if c then PT o a b aA x else PT o a b aA y:=by split<;>rfl
@[simp] def gP3 (id:Nat):Kf id (some (.n,aA))=some (.n,aA):=rfl
@[simp] def gP5 (id j:Nat):Kf id (some (.e j,aA))=if j=id then some (.n,aA) else some (.e j,aA):=rfl
@[simp] def gP2 (id:Nat):Kf id (some (.r,aA))=some (.r,aA):=rfl
@[simp] def gP4 (id:Nat)(c:Prop)[Decidable c](x y:Option (Ex×aG)):Kf id (if c then x else y)=if c then Kf id x else Kf id y:=by split<;>rfl
def Bl (kin:List Nat)(c:C):C9 o kin c aA=Jo o kin c (bI o c (keepE kin aA)):=by unfold C9 Jo;rw[dV2];rfl
@[simp] def Y4 (kin:List Nat)(c:C):Jo o kin c (some (.n,aA))=C9 o kin c aA:=rfl
@[simp] def fI1 (kin:List Nat)(c:C)(id:Nat):Jo o kin c (some (.e id,aA))=some (.e id,aA):=rfl
@[simp] def fH9 (kin:List Nat)(c:C):Jo o kin c (some (.r,aA))=some (.r,aA):=rfl
@[simp] def fI0 (kin:List Nat)(b:C)(c:Prop)[Decidable c](x y:Option (Ex×aG)):Jo o kin b (if c then x else y)=if c then Jo o kin b x else Jo o kin b y:=by split<;>rfl
end
@[simp] def gC0 (n:Nat):aF n []=none:=rfl
@[simp] def gC2 (n m:Nat)(x:V)(aA:aG):aF n ((m,x)::aA)=if n=m then some x else aF n aA:=rfl
@[simp] def fM9 (n:Nat)(x:V):put n x []=[(n,x)]:=rfl
@[simp] def fN0 (n m:Nat)(x y:V)(aA:aG):put n x ((m,y)::aA)=if n<m then(n,x)::(m,y)::aA else if n=m then(n,x)::aA else(m,y)::put n x aA:=rfl
def VN (n:Nat)(x:V)(aA:aG):Option V->aG
 |none=>put n x aA|some _=>put n x (cN n aA)
@[simp] def fN3 (n:Nat)(x:V)(aA:aG):put' n x aA=VN n x aA (aF n aA):=by unfold put' VN;cases aF n aA<;>rfl
@[simp] def fN2 (n:Nat)(x:V)(aA:aG):VN n x aA none=put n x aA:=rfl
@[simp] def fN1 (n:Nat)(x y:V)(aA:aG):VN n x aA (some y)=put n x (cN n aA):=rfl
@[simp] def fN4 (n:Nat):cN n []=[]:=rfl
@[simp] def fN5 (n m:Nat)(x:V)(aA:aG):cN n ((m,x)::aA)=if x.names=some n then cN n aA else(m,x)::cN n aA:=by simp only[cN,LF,D3,ne_eq];by_cases h:x.names=some n<;>simp[h]
@[simp] def gK5 (n:Nat):eH n []=[]:=rfl
@[simp] def gK6 (n m:Nat)(x:V)(aA:aG):eH n ((m,x)::aA)=if m=n then eH n aA else(m,x)::eH n aA:=by simp only[eH,LF,D3,ne_eq];by_cases h:m=n<;>simp[h]
def Vc (ks:List Nat):Option Nat->Bool
 |none=>true|some m=>ks.contains m
@[simp] def gB7 (ks:List Nat):Vc ks none=true:=rfl
@[simp] def gB6 (ks:List Nat)(m:Nat):Vc ks (some m)=ks.contains m:=rfl
@[simp] def fZ9 (ks:List Nat):keepE ks []=[]:=rfl
@[simp] def gA0 (ks:List Nat)(m:Nat)(x:V)(aA:aG):keepE ks ((m,x)::aA)=if(ks.contains m&&Vc ks x.names)=true then(m,x)::keepE ks aA else keepE ks aA:=by simp only[keepE,LF];cases h:x.names<;>simp[Vc]
def VT (ks:List Nat):Option Nat->Bool
 |none=>true|some m=> !ks.contains m
@[simp] def fP7 (ks:List Nat):VT ks none=true:=rfl
@[simp] def fP6 (ks:List Nat)(m:Nat):VT ks (some m)= !ks.contains m:=rfl
@[simp] def gK2 (ks:List Nat):dropE ks []=[]:=rfl
@[simp] def gK1 (aA:aG):dropE [] aA=aA:=by induction aA with|nil=>rfl|cons p r ih=>unfold dropE at ih⊢;rw[LF,ih];cases p.2.names<;>simp
@[simp] def gK3 (ks:List Nat)(m:Nat)(x:V)(aA:aG):dropE ks ((m,x)::aA)=if(!ks.contains m&&VT ks x.names)=true then(m,x)::dropE ks aA else dropE ks aA:=by simp only[dropE,LF];cases h:x.names<;>simp[VT]
section
variable (x:Bool) (k:IntKind) (n i off sz:Nat) (m:Int) (s:List UInt8) (es:List V) (fn:Fn)
@[simp] def fW4:(V.b x).names=none:=rfl
@[simp] def fW1:(V.i k m).names=none:=rfl
@[simp] def fV2:(V.s s).names=none:=rfl
@[simp] def fW0:(V.l es).names=none:=rfl
@[simp] def fV6:(V.ow n es).names=none:=rfl
@[simp] def fV3:(V.r es).names=none:=rfl
@[simp] def fW3:(V.bx es).names=none:=rfl
@[simp] def fW6:(V.a es).names=none:=rfl
@[simp] def fV1:(V.t es).names=none:=rfl
@[simp] def fW2 (cs:List V):(V.f fn es cs).names=none:=rfl
@[simp] def fV8:V.nf.names=none:=rfl
@[simp] def fV7:V.np.names=none:=rfl
@[simp] def fV0:V.ud.names=none:=rfl
@[simp] def fW5:(V.al n).names=some n:=rfl
@[simp] def fV4:(V.pe n i off sz).names=some n:=rfl
@[simp] def fV5:(V.pb n off sz).names=some n:=rfl
@[simp] def gE6:frz (.b x)= .b x:=rfl
@[simp] def gE3:frz (.i k m)= .i k m:=rfl
@[simp] def gD6:frz (.s s)= .s s:=rfl
@[simp] def gE2:frz (.l es)= .l es:=rfl
@[simp] def gD8:frz (.ow n es)= .l es:=rfl
@[simp] def gD7:frz (.r es)= .r es:=rfl
@[simp] def gE5:frz (.bx es)= .r es:=rfl
@[simp] def gE7:frz (.a es)= .a es:=rfl
@[simp] def gD5:frz (.t es)= .t es:=rfl
@[simp] def gE4 (cs:List V):frz (.f fn es cs)= .f fn es cs:=rfl
@[simp] def gE0:frz .nf= .nf:=rfl
@[simp] def gD9:frz .np= .np:=rfl
@[simp] def gD3:frzt (.b x)= .b x:=rfl
@[simp] def gD0:frzt (.i k m)= .i k m:=rfl
@[simp] def gC6:frzt (.s s)= .s s:=rfl
@[simp] def gC9:frzt (.l es)= .l es:=rfl
@[simp] def gC8:frzt (.ow n es)= .l es:=rfl
@[simp] def gC7:frzt (.r es)= .r es:=rfl
@[simp] def gD2:frzt (.bx es)= .r es:=rfl
@[simp] def gD4:frzt (.a es)= .a es:=rfl
@[simp] def gC5:frzt (.t es)= .t (es.map frz):=rfl
@[simp] def gD1 (cs:List V):frzt (.f fn es cs)= .f fn es cs:=rfl
@[simp] def fP3:(V.b x).isOwn=false:=rfl
@[simp] def fP0:(V.i k m).isOwn=false:=rfl
@[simp] def fO1:(V.s s).isOwn=false:=rfl
@[simp] def fO9:(V.l es).isOwn=false:=rfl
@[simp] def fO5:(V.ow n es).isOwn=true:=rfl
@[simp] def fO2:(V.r es).isOwn=false:=rfl
@[simp] def fP2:(V.bx es).isOwn=true:=rfl
@[simp] def fP5:(V.a es).isOwn=false:=rfl
@[simp] def fO0:(V.t es).isOwn=false:=rfl
@[simp] def fP1 (cs:List V):(V.f fn es cs).isOwn=false:=rfl
@[simp] def fO7:V.nf.isOwn=false:=rfl
@[simp] def fO6:V.np.isOwn=false:=rfl
@[simp] def fN9:V.ud.isOwn=false:=rfl
@[simp] def fP4:(V.al n).isOwn=false:=rfl
@[simp] def fO3:(V.pe n i off sz).isOwn=false:=rfl
@[simp] def fO4:(V.pb n off sz).isOwn=false:=rfl
@[simp] def gF9:(V.b x).flat=true:=by simp[V.flat]
@[simp] def gF8:(V.i k m).flat=true:=by simp[V.flat]
@[simp] def gF2:(V.s s).flat=true:=by simp[V.flat]
@[simp] def gF5:V.nf.flat=true:=by simp[V.flat]
@[simp] def gF4:V.np.flat=true:=by simp[V.flat]
@[simp] def gG0:(V.a es).flat=V.flats es:=by simp[V.flat]
@[simp] def gF1:(V.t es).flat=V.flats es:=by simp[V.flat]
@[simp] def gF3:(V.ow n es).flat=V.flats es:=by simp[V.flat]
@[simp] def gF7:(V.l es).flat=es.isEmpty:=by simp[V.flat]
@[simp] def gG6:(V.b x).flat1=true:=by simp[V.flat1,V.flat]
@[simp] def gG5:(V.i k m).flat1=true:=by simp[V.flat1,V.flat]
@[simp] def gG1:(V.s s).flat1=true:=by simp[V.flat1,V.flat]
@[simp] def gG7:(V.a es).flat1=V.flats es:=by simp[V.flat1,V.flat]
@[simp] def gG3:V.nf.flat1=true:=by simp[V.flat1,V.flat]
@[simp] def gG2:V.np.flat1=true:=by simp[V.flat1,V.flat]
@[simp] def fF3:(V.b x).uniq=true:=by simp[V.uniq]
@[simp] def fF2:(V.i k m).uniq=true:=by simp[V.uniq]
@[simp] def fE8:(V.s s).uniq=true:=by simp[V.uniq]
@[simp] def fF0:V.nf.uniq=true:=by simp[V.uniq]
@[simp] def fE9:V.np.uniq=true:=by simp[V.uniq]
@[simp] def fF4:(V.a es).uniq=V.uniqs es:=by simp[V.uniq]
@[simp] def fE7:(V.t es).uniq=V.uniqs es:=by simp[V.uniq]
@[simp] def fE5:V.uniqs []=true:=by simp[V.uniqs]
@[simp] def fE6 (v:V):V.uniqs (v::es)=(v.uniq&&V.uniqs es):=by simp[V.uniqs]
@[simp] def gE8:V.flats []=true:=by simp[V.flats]
@[simp] def gE9 (v:V):V.flats (v::es)=(v.flat&&V.flats es):=by simp[V.flats]
@[simp] def gM9:(V.a es).cells=es:=rfl
@[simp] def gM8:(V.b x).cells=[.b x]:=rfl
@[simp] def gM6:(V.i k m).cells=[.i k m]:=rfl
@[simp] def gM4:(V.s s).cells=[.s s]:=rfl
@[simp] def gM5:(V.l es).cells=[.l es]:=rfl
end
def wL (aA:aG):Option V->Option V
 |some (.al m)=>(aF m aA).bind BK
 |some (.pe m i off sz)=>match(aF m aA).bind BK with
  |some (.l es)=>(es[i]?).bind fun e=>(sub e.cells off sz).map .r|_=>none
 |some (.pb m off sz)=>match(aF m aA).bind BK with
  |some (.r cs)=>(sub cs off sz).map .r|_=>none
 |some x=>BK x|none=>none
def bL8 (i off sz:Nat):Option V->Option V
 |some (.l es)=>(es[i]?).bind fun e=>(sub e.cells off sz).map .r|_=>none
def bL9 (off sz:Nat):Option V->Option V
 |some (.r cs)=>(sub cs off sz).map .r|_=>none
section
variable (aA:aG) (x:Bool) (k:IntKind) (n m i off sz:Nat) (j:Int) (s:List UInt8) (es:List V) (fn:Fn)
@[simp] def fX7:iH aA n=wL aA (aF n aA):=by unfold iH wL;rfl
@[simp] def fZ5:wL aA (some (.al m))=(aF m aA).bind BK:=rfl
@[simp] def fY3:wL aA (some (.pe m i off sz))=bL8 i off sz ((aF m aA).bind BK):=rfl
@[simp] def fY4:wL aA (some (.pb m off sz))=bL9 off sz ((aF m aA).bind BK):=rfl
@[simp] def fX8:bL8 i off sz (some (.l es))=(es[i]?).bind fun e=>(sub e.cells off sz).map .r:=rfl
@[simp] def fX9:bL9 off sz (some (.r es))=(sub es off sz).map .r:=rfl
@[simp] def fZ4:wL aA (some (.b x))=some (.b x):=rfl
@[simp] def fZ1:wL aA (some (.i k j))=some (.i k j):=rfl
@[simp] def fY1:wL aA (some (.s s))=some (.s s):=rfl
@[simp] def fZ0:wL aA (some (.l es))=some (.l es):=rfl
@[simp] def fY5:wL aA (some (.ow n es))=some (.l es):=rfl
@[simp] def fY2:wL aA (some (.r es))=some (.r es):=rfl
@[simp] def fZ3:wL aA (some (.bx es))=some (.r es):=rfl
@[simp] def fZ6:wL aA (some (.a es))=some (.a es):=rfl
@[simp] def fZ2 (cs:List V):wL aA (some (.f fn es cs))=some (.f fn es cs):=rfl
@[simp] def fY7:wL aA (some .nf)=some .nf:=rfl
@[simp] def fY6:wL aA (some .np)=some .np:=rfl
@[simp] def fY0:wL aA (some .um)=some .um:=rfl
@[simp] def fY9 (ks:List V):wL aA (some (.mp ks es))=some .um:=rfl
@[simp] def fL2:BK .um=some .um:=rfl
@[simp] def fL9 (ks:List V):BK (.mp ks es)=some .um:=rfl
@[simp] def fM4:BK (.b x)=some (.b x):=rfl
@[simp] def fM1:BK (.i k j)=some (.i k j):=rfl
@[simp] def fL3:BK (.s s)=some (.s s):=rfl
@[simp] def fM0:BK (.l es)=some (.l es):=rfl
@[simp] def fL5:BK (.ow n es)=some (.l es):=rfl
@[simp] def fL4:BK (.r es)=some (.r es):=rfl
@[simp] def fM3:BK (.bx es)=some (.r es):=rfl
@[simp] def fM5:BK (.a es)=some (.a es):=rfl
@[simp] def fM2 (cs:List V):BK (.f fn es cs)=some (.f fn es cs):=rfl
@[simp] def fL7:BK .nf=some .nf:=rfl
@[simp] def fL6:BK .np=some .np:=rfl
end
def Zu (a b:Option V):Option V->Option V
 |some (.b t)=>if t then a else b|_=>none
section
variable (o:aU) (aA:aG)
@[simp] def gI3 (n:Nat):dJ o aA (.sl n)=iH aA n:=by simp only[dJ]
@[simp] def gI5 (v:V):dJ o aA (.k v)=some v:=by simp only[dJ]
@[simp] def gI6 (c a b:X):dJ o aA (.ite c a b)=Zu (dJ o aA a) (dJ o aA b) (dJ o aA c):=by simp only[dJ];unfold Zu;cases dJ o aA c with|none=>rfl|some v=>cases v<;>rfl
@[simp] def gI4 (p:jU)(xs:List X):dJ o aA (.op p xs)=(vI o aA xs).bind (aS o p):=by simp only[dJ]
@[simp] def gI1:vI o aA []=some []:=by simp only[vI]
def gK8 (v vs:Option (List V)):Option (List V):=v.bind fun v=>vs.map fun vs=>v++vs
@[simp] def gI2 (x:X)(xs:List X):vI o aA (x::xs)=(dJ o aA x).bind fun v=>(vI o aA xs).map fun vs=>v::vs:=by simp only[vI];cases dJ o aA x with|none=>rfl|some v=>cases vI o aA xs<;>rfl
@[simp] def gB1 (a b:Option V)(t:Bool):Zu a b (some (.b t))=if t=true then a else b:=rfl
@[simp] def fM7 (acc:aG):wJ o aA [] acc=some acc:=rfl
@[simp] def fM8 (d:Nat)(x:X)(rs:List (Nat×X))(acc:aG):wJ o aA ((d,x)::rs) acc=(dJ o aA x).bind fun v=>if v.flat1=true then wJ o aA rs (put' d v acc) else none:=rfl
@[simp] def gA8 {α β:Type}(c:Prop)[Decidable c](x y:Option α)(f:α->Option β):(if c then x else y).bind f=if c then x.bind f else y.bind f:=by split<;>rfl
@[simp] def gA7 {α β:Type}(c:Prop)[Decidable c](x y:Option α)(f:α->β):(if c then x else y).map f=if c then x.map f else y.map f:=by split<;>rfl
end
def gA6 {α:Type}(c:Prop)[Decidable c](x y:α):(if c then some x else some y)=some (if c then x else y):=by split<;>rfl
@[simp] def gA5 (c:Bool)(x y:Bool):(if c=true then some (V.b x) else some (V.b y))=some (V.b (if c=true then x else y)):=by cases c<;>rfl
@[simp] def gA3 (c:Prop)[Decidable c](k:IntKind)(x y:Int):(if c then some (V.i k x) else some (V.i k y))=some (V.i k (if c then x else y)):=by split<;>rfl
@[simp] def gA4 (c:Prop)[Decidable c](x y:Bool):(if c then some (V.b x) else some (V.b y))=some (V.b (if c then x else y)):=by split<;>rfl
@[simp] def gB0 (c x:Bool):(if c=true then x else false)=(c&&x):=by cases c<;>rfl
@[simp] def gA9 (c x:Bool):(if c=true then true else x)=(c||x):=by cases c<;>rfl
section
variable (o:aU) (k:IntKind) (a b:Int) (x y:List UInt8) (es:List V) (n off:Nat) (ag t u:Bool)
@[simp] def fU5:aS o (.bin .add) [.i k a,.i k b]=some (.i k (k.wrap (a+b))):=by simp[aS,lQ,zC]
@[simp] def fQ3:aS o (.bin .sub) [.i k a,.i k b]=some (.i k (k.wrap (a - b))):=by simp[aS,lQ,zC]
@[simp] def fR9:aS o (.bin .mul) [.i k a,.i k b]=some (.i k (k.wrap (a*b))):=by simp[aS,lQ,zC]
@[simp] def fR2:aS o (.bin .quo) [.i k a,.i k b]=if b=0 then none else some (.i k (k.wrap (a.tdiv b))):=by simp[aS,lQ,zC]
@[simp] def fR1:aS o (.bin .rem) [.i k a,.i k b]=if b=0 then none else some (.i k (a.tmod b)):=by simp[aS,lQ,zC]
@[simp] def fU3:aS o (.bin .and) [.i k a,.i k b]=some (.i k (wX .and k a b)):=by simp[aS,lQ,zC]
@[simp] def fR4:aS o (.bin .or) [.i k a,.i k b]=some (.i k (wX .or k a b)):=by simp[aS,lQ,zC]
@[simp] def fQ1:aS o (.bin .xor) [.i k a,.i k b]=some (.i k (wX .xor k a b)):=by simp[aS,lQ,zC]
@[simp] def fU2:aS o (.bin .andNot) [.i k a,.i k b]=some (.i k (wX .andNot k a b)):=by simp[aS,lQ,zC]
@[simp] def fT5:aS o (.bin .eql) [.i k a,.i k b]=some (.b (decide (a=b))):=by simp[aS,lQ,zC]
@[simp] def fR6:aS o (.bin .neq) [.i k a,.i k b]=some (.b (!decide (a=b))):=by simp[aS,lQ,zC]
@[simp] def fS1:aS o (.bin .lss) [.i k a,.i k b]=some (.b (decide (a<b))):=by simp[aS,lQ,zC]
@[simp] def fS2:aS o (.bin .leq) [.i k a,.i k b]=some (.b (decide (a<=b))):=by simp[aS,lQ,zC]
@[simp] def fT0:aS o (.bin .gtr) [.i k a,.i k b]=some (.b (decide (b<a))):=by simp[aS,lQ,zC]
@[simp] def fT1:aS o (.bin .geq) [.i k a,.i k b]=some (.b (decide (b<=a))):=by simp[aS,lQ,zC]
@[simp] def fQ9:aS o (.bin .eql) [.s x,.s y]=some (.b (decide (x=y))):=by simp[aS,lQ,Hz]
@[simp] def fQ4:aS o (.bin .neq) [.s x,.s y]=some (.b (!decide (x=y))):=by simp[aS,lQ,Hz]
@[simp] def fQ5:aS o (.bin .lss) [.s x,.s y]=some (.b (Op.bytesLess x y)):=by simp[aS,lQ,Hz]
@[simp] def fQ6:aS o (.bin .leq) [.s x,.s y]=some (.b (Op.bytesLess x y||decide (x=y))):=by simp[aS,lQ,Hz]
@[simp] def fQ7:aS o (.bin .gtr) [.s x,.s y]=some (.b (!(Op.bytesLess x y||decide (x=y)))):=by simp[aS,lQ,Hz]
@[simp] def fQ8:aS o (.bin .geq) [.s x,.s y]=some (.b (!Op.bytesLess x y)):=by simp[aS,lQ,Hz]
@[simp] def fR0:aS o (.bin .add) [.s x,.s y]=if x.length+y.length<=9223372036854775807 then some (.s (x++y)) else none:=by simp[aS,lQ,Hz]
@[simp] def fU1:aS o (.binb .eql) [.b t,.b u]=some (.b (t==u)):=by simp[aS,Kg]
@[simp] def fT9:aS o (.binb .neq) [.b t,.b u]=some (.b (!(t==u))):=by simp[aS,Kg]
@[simp] def fR5:aS o (.un .not) [.b t]=some (.b (!t)):=by simp[aS,H5]
@[simp] def fQ2:aS o (.un .xor) [.i k a]=some (.i k (wX .xor k (if k.signed then -1 else k.max) a)):=by simp[aS,H5]
@[simp] def fR7:aS o (.un .neg) [.i k a]=some (.i k (k.wrap (0 - a))):=by simp[aS,H5]
@[simp] def fT6 (neg:Bool)(ks:List Nat)(xs ys:List V):aS o (.eqa neg ks) [.a xs,.a ys]=(iL ks xs ys).map fun r=> .b (if neg then !r else r):=rfl
@[simp] def fS3:aS o .slen [.s x]=some (.i .i64 x.length):=rfl
@[simp] def fS4:aS o .len [.l es]=some (.i .i64 es.length):=rfl
@[simp] def fT2:aS o (.fld off n ag) [.a es]=(sub es off n).bind fun r=>if ag=true then some (.a r) else r[0]? :=rfl
@[simp] def fU4 {len m:Nat}:aS o (.aix len m ag) [.a es,.i k a]=if 0<=a/\a<(len:Int) then(sub es (a.toNat*m) m).bind fun r=>if ag=true then some (.a r) else r[0]? else none:=rfl
@[simp] def fR3 {len m:Nat}:aS o (.pix len m) [.r es,.i k a]=if 0<=a/\a<(len:Int) then(sub es (a.toNat*m) m).map .r else none:=rfl
def IM:aS o .idx [.s x,.i k a]=if 0<=a then(x[a.toNat]?).map fun c=> .i .u8 c.toNat else none:=rfl
def VV:aS o (.ix n) [.l es,.i k a]=if 0<=a then(es[a.toNat]?).bind fun e=>if e.cells.length=n then some (.r e.cells) else none else none:=rfl
@[simp] def fT3:aS o (.fa off n) [.r es]=(sub es off n).map .r:=rfl
@[simp] def fS5:aS o (.ld n ag) [.r es]=if es.length=n then(if ag=true then some (.a es) else es[0]?) else none:=rfl
@[simp] def dN0 (fl:Bool)(f:Nat)(args:List V):aS o (.call fl f) args=(o f args).bind fun r=>if fl=true->r.uniq=true then some (frzt r) else none:=rfl
@[simp] def dM9 (fl:Bool)(args:List V):aS o (.callv fl) args=(AX o args).bind fun r=>if fl=true->r.uniq=true then some (frzt r) else none:=rfl
@[simp] def gO7 (f:Nat)(fs cs args:List V):AX o (.f (.func f) fs cs::args)=o f (fs++args++cs):=rfl
@[simp] def fT7 (k':IntKind):aS o (.cnv k') [.i k a]=some (.i k' (k'.wrap a)):=rfl
@[simp] def fT4 (i:Nat)(vs:List V):aS o (.ext i) [.t vs]=vs[i]? :=rfl
@[simp] def fU0 (z:List V)(ps:List (Nat×Nat))(xs:List V):aS o (.bld z ps) xs=(yM z ps xs).map .a:=rfl
@[simp] def fT8 (kk:Nat)(xs:List V):aS o (.bsl kk) xs=if xs.all (fun x=>x.cells.length==kk&&x.cells.all V.cell) then some (.l xs) else none:=rfl
end
attribute [simp] sub yM splice iL
def bC (n:Int)(h: -9223372036854775808<=n/\n<=9223372036854775807):IntKind.i64.wrap n=n:=IntWalk.i64_in n h
section
variable (aA:aG) (x:Bool) (k:IntKind) (n m i off sz:Nat) (j:Int) (s:List UInt8) (es:List V) (fn:Fn) (rs:List RV)
def Jp (aA:aG)(m:Nat):V->Option (V×aG)
 | .al _| .pe .. | .pb .. | .t _| .ud=>none|y=>some (y,if y.isOwn then put m .ud aA else aA)
def C4 (aA:aG)(t:Nat):Option V->Option (V×aG)
 |some (.al m)=>(aF m aA).bind (Jp aA m)|some (.pe ..)=>none|some (.pb ..)=>none|some (.t _)=>none|some .ud=>none|some x=>some (x,if x.isOwn then put t .ud aA else aA)|none=>none
@[simp] def fJ0 (t:Nat):fZ aA (.tmp t)=C4 aA t (aF t aA):=by
 simp only[fZ];unfold C4;cases h:aF t aA with
 |none=>rfl
 |some v=>cases v<;>first
  |rfl
  |(simp only[aZ];congr 1;funext y;cases y<;>rfl)
@[simp] def fK1 (t:Nat):C4 aA t (some (.al m))=(aF m aA).bind (Jp aA m):=rfl
@[simp] def fK7:Jp aA m (.b x)=some (.b x,aA):=rfl
@[simp] def fK6:Jp aA m (.i k j)=some (.i k j,aA):=rfl
@[simp] def fK3:Jp aA m (.s s)=some (.s s,aA):=rfl
@[simp] def fK5:Jp aA m (.l es)=some (.l es,aA):=rfl
@[simp] def fK4:Jp aA m (.ow n es)=some (.ow n es,put m .ud aA):=rfl
@[simp] def fK8:Jp aA m (.a es)=some (.a es,aA):=rfl
@[simp] def fK0 (t:Nat):C4 aA t (some (.b x))=some (.b x,aA):=rfl
@[simp] def fJ7 (t:Nat):C4 aA t (some (.i k j))=some (.i k j,aA):=rfl
@[simp] def fJ2 (t:Nat):C4 aA t (some (.s s))=some (.s s,aA):=rfl
@[simp] def fJ6 (t:Nat):C4 aA t (some (.l es))=some (.l es,aA):=rfl
@[simp] def fJ4 (t:Nat):C4 aA t (some (.ow n es))=some (.ow n es,put t .ud aA):=rfl
@[simp] def fJ3 (t:Nat):C4 aA t (some (.r es))=some (.r es,aA):=rfl
@[simp] def fJ9 (t:Nat):C4 aA t (some (.bx es))=some (.bx es,put t .ud aA):=rfl
@[simp] def fK2 (t:Nat):C4 aA t (some (.a es))=some (.a es,aA):=rfl
@[simp] def fJ8 (t:Nat)(cs:List V):C4 aA t (some (.f fn es cs))=some (.f fn es cs,aA):=rfl
@[simp] def fJ1 (t:Nat)(ag:Bool):fZ aA (.cell t n ag)=(iH aA t).bind fun x=>(aS (fun _ _=>none) (.ld n ag) [x]).bind fun y=>some (y,aA):=rfl
@[simp] def fI8:Ak [] aA=some []:=rfl
@[simp] def fI9 (r:RV):Ak (r::rs) aA=(fZ aA r).bind fun p=>(Ak rs p.2).map fun vs=>p.1::vs:=by simp only[Ak];cases fZ aA r with|none=>rfl|some p=>simp only[aZ];cases Ak rs p.2<;>rfl
def Lp:List V->V
 |[v]=>v|vs=> .t vs
def VD:yA rs aA=(Ak rs aA).map Lp:=by unfold yA Lp;rfl
@[simp] def fI3 (v:V):Lp [v]=v:=rfl
@[simp] def fI4:Lp []= .t []:=rfl
@[simp] def fI2 (u v:V)(vs:List V):Lp (u::v::vs)= .t (u::v::vs):=rfl
def wH (rs:List RV)(r:Option (Ex×aG)):Option V:=r.bind fun p=>match p.1 with| .e _=>none|_=>yA rs p.2
def bZ6 (o:aU)(fc:aQ)(args:List V)(h:args.length=fc.np)(ha:args.all V.arg=true):BN o fc args=wH fc.res (bI o fc.body (kR 0 args)):=by unfold BN wH;rw[aY ⟨h,ha⟩];cases bI o fc.body (kR 0 args) with|none=>rfl|some p=>obtain⟨e,aN⟩:=p;cases e<;>rfl
@[simp] def fI5:wH rs (some (.r,aA))=(Ak rs aA).map Lp:=by rw[<-VD];rfl
@[simp] def fI6:wH rs (some (.n,aA))=(Ak rs aA).map Lp:=by rw[<-VD];rfl
@[simp] def fI7 (c:Prop)[Decidable c](x y:Option (Ex×aG)):wH rs (if c then x else y)=if c then wH rs x else wH rs y:=by split<;>rfl
@[simp] def gP7:kR i []=[]:=rfl
@[simp] def gP8 (v:V)(vs:List V):kR i (v::vs)=(i,v)::kR (i+1) vs:=rfl
end
end Go.VM
