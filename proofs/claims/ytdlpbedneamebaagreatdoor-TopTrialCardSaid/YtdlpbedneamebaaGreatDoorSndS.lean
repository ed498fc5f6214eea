/-
A part of the proof of the last text.
-/
import Derived.Test.YtdlpbedneamebaaGreatDoorTCB
import Derived.Test.YtdlpbedneamebaaGreatDoorSndP
set_option linter.all false
namespace Go.Proofs.YtdlpbedneamebaaGreatDoor
open Go.VM
variable {X:aU}
structure XM (b:cD):Prop where
 few:N1 b
 snb:T5 b
 holdL:b.holds.length<=20
 blkL:b.blocks.length<=20
 accs:∀a∈b.accounts,N7 a
 prods:∀p∈b.products,Kn p
 holds:∀h∈b.holds,Ks h
 blks:∀x∈b.blocks,Kx x
 amts:∀e∈b.journal,JJ e
def u15 (b:cD)(h:O X 15 [b.v]=some (.b true)):b.holds.length<=20/\b.blocks.length<=20:=by
 have key:(20:Int)<(b.holds.length:Int)\/(20:Int)<(b.blocks.length:Int)->O X 15 [b.v]=some (.b false):=by intro hk;refine aI (fc:=uL) rfl rfl rfl ?_;by_cases c1:(8:Int)<(b.accounts.length:Int);simp[uL,c1];by_cases c2:(90:Int)<(b.journal.length:Int);simp[uL,c1,c2];by_cases c3:(40:Int)<(b.chart.length:Int);simp[uL,c1,c2,c3];by_cases c4:(12:Int)<(b.products.length:Int);simp[uL,c1,c2,c3,c4];by_cases c5:(4:Int)<(b.calendars.length:Int);simp[uL,c1,c2,c3,c4,c5];by_cases c6:(20:Int)<(b.holds.length:Int);simp[uL,c1,c2,c3,c4,c5,c6];have c7:=hk.resolve_left c6;simp[uL,c1,c2,c3,c4,c5,c6,c7]
 by_cases c:(20:Int)<(b.holds.length:Int)\/(20:Int)<(b.blocks.length:Int);rw[key c] at h;simp at h;omega
set_option maxHeartbeats 8000000 in
def u16 (b:cD)(hF:N1 b)(h20:b.holds.length<=20/\b.blocks.length<=20)(hf:Lw b)(hg:∀g∈b.chart,g.name.length<=maxLen):∃n:Int,O X 16 [b.v]=some (.i .i64 n)/\(n=0->XM b):=by
 have hS:qU b:=⟨by have:=hF.curs;omega,by have:=hF.chartL;omega,by have:=hF.accs;omega,by have:=hF.prods;omega,by have:=hF.jour;omega⟩;have ED:b.chart.length<=maxLen:=by have:=hF.chartL;unfold maxLen;omega
 have:∃y,O X 16 [b.v]=some y/\IP (XM b) y:=by
  refine gZ (fc:=vK) rfl rfl rfl ?_;obtain⟨n1,h1⟩:=t9 (X:=X) b.currencies;obtain⟨n2,h2⟩:=aY6 (X:=X) b.calendars (by have:=hF.cals;omega) (fun c hc=>by have:=hF.cal c hc;omega);have h3:=Rt (X:=X) b.chart b.plan hg ED;obtain⟨n4,h4,p4⟩:=u39 (X:=X) b hS (by have:=hF.cals;omega) hf;obtain⟨n5,h5,p5⟩:=u40 (X:=X) b hS.prods;obtain⟨n6,h6,f6⟩:=aY5 (X:=X) b hS (fun e he=>by have:=hF.legs e he;omega);obtain⟨n6',h6',f6'⟩:=m41 (X:=X) b hS (fun e he=>by have:=hF.legs e he;omega);have e6:n6'=n6:=by rw[h6] at h6';simpa using h6'.symm
  subst e6;obtain⟨n7,h7,p7⟩:=u42 (X:=X) b.holds (by omega);obtain⟨n8,h8,p8⟩:=u43 (X:=X) b.blocks (by omega);by_cases c1:n1=0
  rotate_left
  simp[vK,h1,c1];subst c1;by_cases c2:n2=0
  rotate_left
  simp[vK,h1,h2,c2];subst c2;by_cases c3:K6 b.chart b.plan=0
  rotate_left
  simp[vK,h1,h2,h3,c3];rw[c3] at h3;by_cases c4:n4=0
  rotate_left
  simp[vK,h1,h2,h3,h4,c4];subst c4;by_cases c5:n5=0
  rotate_left
  simp[vK,h1,h2,h3,h4,h5,c5];subst c5;by_cases c6:n6'=0
  rotate_left
  simp[vK,h1,h2,h3,h4,h5,h6,c6];subst c6;by_cases c7:n7=0
  rotate_left
  simp[vK,h1,h2,h3,h4,h5,h6,h7,c7];subst c7;by_cases c8:n8=0;subst c8;have hJ:∀e∈b.journal,JJ e:=fun e he=>by obtain⟨i,hi,rfl⟩:=lH he;exact f6' rfl i hi
  have hsn:XM b:=⟨hF,⟨hF.accs,hF.jour,hF.chartL,hF.curs,hF.prods,c3,f6 rfl⟩,h20.1,h20.2,p5 rfl,p4 rfl,p7 rfl,p8 rfl,hJ⟩;simp[vK,h1,h2,h3,h4,h5,h6,h7,h8,hsn];simp[vK,h1,h2,h3,h4,h5,h6,h7,h8,c8]
 obtain⟨y,h,n,rfl,hp⟩:=this;exact⟨n,h,hp⟩
def u5 (b:cD)(hf:Lw b)(hg:∀g∈b.chart,g.name.length<=maxLen):∃t:Bool,O X 5 [b.v]=some (.b t)/\(t=true->XM b):=by obtain⟨t,Fb,hF⟩:=aY9 (X:=X) b;cases t with|false=>exact⟨false,aI (fc:=DE) rfl rfl rfl (by simp[DE,Fb]),by simp⟩|true=>obtain⟨n,uF,hs⟩:=u16 (X:=X) b (hF rfl) (u15 b Fb) hf hg;by_cases h0:n=0;subst h0;exact⟨true,aI (fc:=DE) rfl rfl rfl (by simp[DE,Fb,uF]),fun _=>hs rfl⟩;exact⟨false,aI (fc:=DE) rfl rfl rfl (by simp[DE,Fb,uF,h0]),by simp⟩
end Go.Proofs.YtdlpbedneamebaaGreatDoor
