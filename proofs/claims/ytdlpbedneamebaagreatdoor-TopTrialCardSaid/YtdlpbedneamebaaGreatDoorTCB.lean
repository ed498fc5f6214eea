/-
Plain laws and walks: part of the proof of the last text.
-/
import Derived.Test.YtdlpbedneamebaaGreatDoorTZ
import Derived.Test.YtdlpbedneamebaaGreatDoorTR
import Derived.Test.YtdlpbedneamebaaGreatDoorTBB
set_option linter.all false
namespace Go.Proofs.YtdlpbedneamebaaGreatDoor
open Go.VM
variable {X:aU}
def cG (n:Int):Prop:=0<=n/\n<18446744073709551616
def cG.wrap (n:Int):cG (IntKind.u64.wrap n):=by rw[IntKind.wrap_u64];unfold cG;omega
def cG.bits (op:BinOp)(a b:Int):cG (wX op .u64 a b):=by unfold wX;cases op<;>exact cG.wrap _
def cG.eq {n:Int}(h:cG n):IntKind.u64.wrap n=n:=by rw[IntKind.wrap_u64];unfold cG at h;omega
def XI:cG 0:=by unfold cG;omega
def E':List UInt8:=[0,1,2,2,3,3,3,3,4,4,4,4,4,4,4,4,5,5,5,5,5,5,5,5,5,5,5,5,5,5,5,5,6,6,6,6,6,6,6,6,6,6,6,6,6,6,6,6,6,6,6,6,6,6,6,6,6,6,6,6,6,6,6,6,7,7,7,7,7,7,7,7,7,7,7,7,7,7,7,7,7,7,7,7,7,7,7,7,7,7,7,7,7,7,7,7,7,7,7,7,7,7,7,7,7,7,7,7,7,7,7,7,7,7,7,7,7,7,7,7,7,7,7,7,7,7,7,7,8,8,8,8,8,8,8,8,8,8,8,8,8,8,8,8,8,8,8,8,8,8,8,8,8,8,8,8,8,8,8,8,8,8,8,8,8,8,8,8,8,8,8,8,8,8,8,8,8,8,8,8,8,8,8,8,8,8,8,8,8,8,8,8,8,8,8,8,8,8,8,8,8,8,8,8,8,8,8,8,8,8,8,8,8,8,8,8,8,8,8,8,8,8,8,8,8,8,8,8,8,8,8,8,8,8,8,8,8,8,8,8,8,8,8,8,8,8,8,8,8,8,8,8,8,8,8,8]
def yK:aQ:=⟨1,[.tmp 2],vY 2 (jW (iW 4 (Dj .geq 0) 4 (j9 0 (E3 0) (xQ 2 (xN 32)))) (iW 8 (tS .geq 0 65536) 8 (j9 0 (Q8 0 16) (C0 2 2 16))) (iW 14 (tS .geq 0 256) 14 (j9 0 (Q8 0 8) (C0 2 2 8))) 2 (Dh 2 (dY Di (dY .idx (GU E') [Aj (.cnv .u8) []]) [])) 2 [])⟩
def aD4:C:=xQ 8 (Ny z8 341 [fB] [])
def aD2:C:=xQ 2 (jE .shl 2 l9)
def aD3:C:=xQ 9 (E3 2)
def aE4:C:=xQ 10 (LS 2)
def aE3:C:=xQ 11 (xB .or (jE .shl 0 l9) (jE .shr 1 (uX (Bf 64) l9)))
def aE2:C:=xQ 12 (jE .shl 1 l9)
def aE1:C:=xQ 13 (E3 12)
def aE0:C:=xQ 14 (LS 12)
def aD9:C:=xQ 15 (jE .quo 11 m6)
def aD8:C:=xQ 16 (Hb 11 (zZ 15 m6))
def aD6:C:=xQ 17 (uX (H9 (Dj .mul 11) 13) (zZ 15 fB))
def aD5:C:=xQ 18 (jE .quo 17 m6)
def aD7:C:=xQ 16 (Hb 17 (zZ 18 m6))
def aD1:C:=kK [(6,H9 (Dj .mul 15) 18),(7,xB .shr (uX (H9 (Dj .mul 17) 14) (zZ 18 fB)) l9)] 6 [7]
def aE5:C:=.seq aD4 (CU aD2 aD3 aE4 aE3 aE2 aE1 (oK aE0 aD9 aD8 (GS [2,8,9,10,11,13,14,15,16] DS) (oK aD6 aD5 aD7 (G7 2 [2,8,9,10,14,15,16,17,18] DR) aD1)))
def K2:aQ:=⟨3,[.tmp 6,.tmp 7],oK (dV 6 uV [(7,uV)]) (iW 20 (tS .eql 2 0) 20 JX) (iW 24 (jE .leq 2 cI) 24 JX) (jB 27 (tS .eql 0 0) 27 [(6,jE .quo 1 fB),(7,jE .rem 1 fB)] 6 [7]) aE5⟩
def O7 (o:aU)(k k':IntKind)(a b:Int)(h:0<=b):aS o (.bin .shr) [.i k a,.i k' b]=some (.i k (a.fdiv (2 ^ (min b.toNat k.bits)))):=by
 have:¬b<0:=by omega
 simp[aS,lQ,this]
def ZH (o:aU)(k k':IntKind)(a b:Int)(h:0<=b):aS o (.bin .shl) [.i k a,.i k' b]=some (.i k (k.wrap (a*2 ^ (min b.toNat k.bits)))):=by
 have:¬b<0:=by omega
 simp[aS,lQ,this]
set_option maxRecDepth 100000 in
def Eo (o:aU)(a:Int):aS o (.bin .shr) [.i .u64 a,.i .u64 32]=some (.i .u64 (a.fdiv 4294967296)):=O7 o .u64 .u64 a 32 (by decide)
def Jj (o:aU)(a:Int):aS o (.bin .shr) [.i .u64 a,.i .u64 16]=some (.i .u64 (a.fdiv 65536)):=O7 o .u64 .u64 a 16 (by decide)
def Ji (o:aU)(a:Int):aS o (.bin .shr) [.i .u64 a,.i .u64 8]=some (.i .u64 (a.fdiv 256)):=O7 o .u64 .u64 a 8 (by decide)
def dY3:E'.length=256:=by kernel_rfl
def RC (k b:Nat):Bool:=b==1&&k<2||b==2&&2<=k&&k<4||b==3&&4<=k&&k<8||b==4&&8<=k&&k<16||b==5&&16<=k&&k<32||b==6&&32<=k&&k<64||b==7&&64<=k&&k<128||b==8&&128<=k
set_option maxRecDepth 100000 in
def dY2:(List.range 256).all (fun k=>k==0||RC k (E'.getD k 0).toNat)=true:=by kernel_rfl
def dY1 (k:Nat)(hk:k<256)(h0:k≠0):RC k (E'.getD k 0).toNat=true:=by
 have h:=eM.1 dY2 k (nH.2 hk);have mH:(k==0)=false:=by simp[h0]
 have h1:(k==0||RC k (E'.getD k 0).toNat)=true:=h;rw[mH,Bool.false_or] at h1;exact h1
def dY0 (k:Nat)(hk:k<256):∃b:UInt8,E'[k]? =some b/\E'.getD k 0=b:=by
 have hl:k<E'.length:=by rw[dY3];exact hk
 refine⟨E'[k]'hl,eI hl,?_⟩;rw[EX,eI hl,GQ]
def Bts (x:Int)(m:Nat):Prop:=m=1/\x<2\/m=2/\2<=x/\x<4\/m=3/\4<=x/\x<8\/m=4/\8<=x/\x<16\/m=5/\16<=x/\x<32\/m=6/\32<=x/\x<64\/m=7/\64<=x/\x<128\/m=8/\128<=x
def dO8 (k m:Nat)(h:RC k m=true):Bts k m:=by simp only[RC,tK,fA,pM,uS] at h;rcases h with((((((h|h)|h)|h)|h)|h)|h)|h;exact .inl (by omega);exact .inr (.inl (by omega));exact .inr (.inr (.inl (by omega)));exact .inr (.inr (.inr (.inl (by omega))));exact .inr (.inr (.inr (.inr (.inl (by omega)))));exact .inr (.inr (.inr (.inr (.inr (.inl (by omega))))));exact .inr (.inr (.inr (.inr (.inr (.inr (.inl (by omega)))))));exact .inr (.inr (.inr (.inr (.inr (.inr (.inr (by omega)))))))
def dY4 (x:Int)(h0:0<x)(h1:x<256):∃b:UInt8,E'[x.toNat]? =some b/\Bts x b.toNat:=by obtain⟨b,hb,hg⟩:=dY0 x.toNat (by omega);have h:=dO8 _ _ (dY1 x.toNat (by omega) (by omega));rw[hg] at h;rw[show((x.toNat:Nat):Int)=x from by omega] at h;exact⟨b,hb,h⟩
set_option maxRecDepth 100000 in
set_option maxHeartbeats 4000000 in
def cM3 (x:Int)(hx:cG x)(h0:0<x):∃n:Nat,O X 124 [.i .u64 x]=some (.i .i64 n)/\1<=n/\n<=64/\(2:Int) ^ (n - 1)<=x/\x<(2:Int) ^ n:=by
 have key:∀(k:Nat) (y:Int),(k=0\/k=8\/k=16\/k=24\/k=32\/k=40\/k=48\/k=56)->y=x / 2 ^ k->0<y->y<256->(∀b:UInt8,E'[y.toNat]? =some b->∃m:Int,m=k+b.toNat/\O X 124 [.i .u64 x]=some (.i .i64 m))->∃n:Nat,O X 124 [.i .u64 x]=some (.i .i64 n)/\1<=n/\n<=64/\(2:Int) ^ (n - 1)<=x/\x<(2:Int) ^ n:=by
  intro k y hk hy Dx FK h;obtain⟨b,hb,hc⟩:=dY4 y Dx FK;obtain⟨m,rfl,hm⟩:=h b hb;have hbb:∃c:Nat,b.toNat=c:=⟨_,rfl⟩;obtain⟨c,AK⟩:=hbb;rw[AK] at hc hm;unfold Bts at hc;have e:((k:Int)+(c:Int))=((k+c:Nat):Int):=by omega
  rw[e] at hm;have hc8:1<=c/\c<=8:=by rcases hc with h|h|h|h|h|h|h|h<;>omega
  have hk8:k<=56:=by omega
  refine⟨k+c,hm,by omega,by omega,?_⟩;clear hm h e AK hb;rcases hk with rfl|rfl|rfl|rfl|rfl|rfl|rfl|rfl<;>rcases hc with⟨rfl,_⟩|⟨rfl,_⟩|⟨rfl,_⟩|⟨rfl,_⟩|⟨rfl,_⟩|⟨rfl,_⟩|⟨rfl,_⟩|⟨rfl,_⟩<;>simp at hy⊢<;>omega
 have hu8:∀z:Int,0<=z->z<256->IntKind.u8.wrap z=z:=fun z h1 h2=>by rw[IntKind.wrap_u8];omega
 have sE:∀b:UInt8,0<=(b.toNat:Int)/\(b.toNat:Int)<256:=fun b=>by have:=b.toNat_lt;omega
 have e0:yK=aN1:=rfl;have w16:IntKind.i64.wrap 16=16:=rfl;have w8:IntKind.i64.wrap 8=8:=rfl;have w24:IntKind.i64.wrap 24=24:=rfl;have w40:IntKind.i64.wrap 40=40:=rfl;have w48:IntKind.i64.wrap 48=48:=rfl;have w56:IntKind.i64.wrap 56=56:=rfl;unfold cG at hx;by_cases c1:4294967296<=x;by_cases c2:65536<=x / 4294967296;by_cases c3:256<=x / 4294967296 / 65536;have e1:x.fdiv 4294967296=x / 4294967296:=zS _ (by decide);have e2:(x / 4294967296).fdiv 65536=x / 4294967296 / 65536:=zS _ (by decide);have e3:(x / 4294967296 / 65536).fdiv 256=x / 4294967296 / 65536 / 256:=zS _ (by decide);have hz:IntKind.u8.wrap (x / 4294967296 / 65536 / 256)=x / 4294967296 / 65536 / 256:=hu8 _ (by omega) (by omega);have hp:0<=x / 4294967296 / 65536 / 256:=by omega
 refine key 56 (x / 4294967296 / 65536 / 256) (by simp) (by simp<;>omega) (by omega) (by omega) fun b hb=>⟨_,rfl,aI (fc:=yK) (by rw[e0];exact Jg) rfl rfl ?_⟩;have cU:IntKind.i64.wrap (b.toNat:Int)=b.toNat:=bC _ (by have:=sE b;omega);have eZ:IntKind.i64.wrap (56+(b.toNat:Int))=56+b.toNat:=bC _ (by have:=sE b;omega);simp[yK,Eo,Jj,Ji,IM,c1,c2,c3,e1,e2,e3,hz,hp,hb,cU,eZ,w16,w8,w24,w40,w48,w56];have e1:x.fdiv 4294967296=x / 4294967296:=zS _ (by decide);have e2:(x / 4294967296).fdiv 65536=x / 4294967296 / 65536:=zS _ (by decide);have hz:IntKind.u8.wrap (x / 4294967296 / 65536)=x / 4294967296 / 65536:=hu8 _ (by omega) (by omega);have hp:0<=x / 4294967296 / 65536:=by omega
 refine key 48 (x / 4294967296 / 65536) (by simp) (by simp<;>omega) (by omega) (by omega) fun b hb=>⟨_,rfl,aI (fc:=yK) (by rw[e0];exact Jg) rfl rfl ?_⟩;have cU:IntKind.i64.wrap (b.toNat:Int)=b.toNat:=bC _ (by have:=sE b;omega);have eZ:IntKind.i64.wrap (48+(b.toNat:Int))=48+b.toNat:=bC _ (by have:=sE b;omega);simp[yK,Eo,Jj,Ji,IM,c1,c2,c3,e1,e2,hz,hp,hb,cU,eZ,w16,w8,w24,w40,w48,w56];by_cases c3:256<=x / 4294967296;have e1:x.fdiv 4294967296=x / 4294967296:=zS _ (by decide);have e3:(x / 4294967296).fdiv 256=x / 4294967296 / 256:=zS _ (by decide);have hz:IntKind.u8.wrap (x / 4294967296 / 256)=x / 4294967296 / 256:=hu8 _ (by omega) (by omega);have hp:0<=x / 4294967296 / 256:=by omega
 refine key 40 (x / 4294967296 / 256) (by simp) (by simp<;>omega) (by omega) (by omega) fun b hb=>⟨_,rfl,aI (fc:=yK) (by rw[e0];exact Jg) rfl rfl ?_⟩;have cU:IntKind.i64.wrap (b.toNat:Int)=b.toNat:=bC _ (by have:=sE b;omega);have eZ:IntKind.i64.wrap (40+(b.toNat:Int))=40+b.toNat:=bC _ (by have:=sE b;omega);simp[yK,Eo,Jj,Ji,IM,c1,c2,c3,e1,e3,hz,hp,hb,cU,eZ,w16,w8,w24,w40,w48,w56];have e1:x.fdiv 4294967296=x / 4294967296:=zS _ (by decide);have hz:IntKind.u8.wrap (x / 4294967296)=x / 4294967296:=hu8 _ (by omega) (by omega);have hp:0<=x / 4294967296:=by omega
 refine key 32 (x / 4294967296) (by simp) (by simp<;>omega) (by omega) (by omega) fun b hb=>⟨_,rfl,aI (fc:=yK) (by rw[e0];exact Jg) rfl rfl ?_⟩;have cU:IntKind.i64.wrap (b.toNat:Int)=b.toNat:=bC _ (by have:=sE b;omega);have eZ:IntKind.i64.wrap (32+(b.toNat:Int))=32+b.toNat:=bC _ (by have:=sE b;omega);simp[yK,Eo,Jj,Ji,IM,c1,c2,c3,e1,hz,hp,hb,cU,eZ,w16,w8,w24,w40,w48,w56];by_cases c2:65536<=x;by_cases c3:256<=x / 65536;have e2:(x).fdiv 65536=x / 65536:=zS _ (by decide);have e3:(x / 65536).fdiv 256=x / 65536 / 256:=zS _ (by decide);have hz:IntKind.u8.wrap (x / 65536 / 256)=x / 65536 / 256:=hu8 _ (by omega) (by omega);have hp:0<=x / 65536 / 256:=by omega
 refine key 24 (x / 65536 / 256) (by simp) (by simp<;>omega) (by omega) (by omega) fun b hb=>⟨_,rfl,aI (fc:=yK) (by rw[e0];exact Jg) rfl rfl ?_⟩;have cU:IntKind.i64.wrap (b.toNat:Int)=b.toNat:=bC _ (by have:=sE b;omega);have eZ:IntKind.i64.wrap (24+(b.toNat:Int))=24+b.toNat:=bC _ (by have:=sE b;omega);simp[yK,Eo,Jj,Ji,IM,c1,c2,c3,e2,e3,hz,hp,hb,cU,eZ,w16,w8,w24,w40,w48,w56];have e2:(x).fdiv 65536=x / 65536:=zS _ (by decide);have hz:IntKind.u8.wrap (x / 65536)=x / 65536:=hu8 _ (by omega) (by omega);have hp:0<=x / 65536:=by omega
 refine key 16 (x / 65536) (by simp) (by simp<;>omega) (by omega) (by omega) fun b hb=>⟨_,rfl,aI (fc:=yK) (by rw[e0];exact Jg) rfl rfl ?_⟩;have cU:IntKind.i64.wrap (b.toNat:Int)=b.toNat:=bC _ (by have:=sE b;omega);have eZ:IntKind.i64.wrap (16+(b.toNat:Int))=16+b.toNat:=bC _ (by have:=sE b;omega);simp[yK,Eo,Jj,Ji,IM,c1,c2,c3,e2,hz,hp,hb,cU,eZ,w16,w8,w24,w40,w48,w56];by_cases c3:256<=x;have e3:(x).fdiv 256=x / 256:=zS _ (by decide);have hz:IntKind.u8.wrap (x / 256)=x / 256:=hu8 _ (by omega) (by omega);have hp:0<=x / 256:=by omega
 refine key 8 (x / 256) (by simp) (by simp<;>omega) (by omega) (by omega) fun b hb=>⟨_,rfl,aI (fc:=yK) (by rw[e0];exact Jg) rfl rfl ?_⟩;have cU:IntKind.i64.wrap (b.toNat:Int)=b.toNat:=bC _ (by have:=sE b;omega);have eZ:IntKind.i64.wrap (8+(b.toNat:Int))=8+b.toNat:=bC _ (by have:=sE b;omega);simp[yK,Eo,Jj,Ji,IM,c1,c2,c3,e3,hz,hp,hb,cU,eZ,w16,w8,w24,w40,w48,w56];have hz:IntKind.u8.wrap (x)=x:=hu8 _ (by omega) (by omega);have hp:0<=x:=by omega
 refine key 0 (x) (by simp) (by simp<;>omega) (by omega) (by omega) fun b hb=>⟨_,rfl,aI (fc:=yK) (by rw[e0];exact Jg) rfl rfl ?_⟩;have cU:IntKind.i64.wrap (b.toNat:Int)=b.toNat:=bC _ (by have:=sE b;omega);have eZ:IntKind.i64.wrap (0+(b.toNat:Int))=0+b.toNat:=bC _ (by have:=sE b;omega);simp[yK,Eo,Jj,Ji,IM,c1,c2,c3,hz,hp,hb,cU,eZ,w16,w8,w24,w40,w48,w56]
def cH9 (x:Int)(hx:cG x)(h0:0<x):∃s:Nat,O X 341 [.i .u64 x]=some (.i .i64 s)/\s<=63/\9223372036854775808<=x*2 ^ s/\x*2 ^ s<18446744073709551616:=by
 obtain⟨n,h,n1,n2,p1,p2⟩:=cM3 (X:=X) x hx h0;have hw:IntKind.i64.wrap (64 - (n:Int))=((64 - n:Nat):Int):=by rw[bC _ (by omega)];omega
 refine⟨64 - n,aI (fc:=aH0) cQ9 rfl rfl (by simp[aH0,h,hw]),by omega,?_,?_⟩;have e:(2:Int) ^ (n - 1)*2 ^ (64 - n)=9223372036854775808:=by rw[<-Int.pow_add,show n - 1+(64 - n)=63 by omega];rfl
 rw[<-e];exact Int.mul_le_mul_of_nonneg_right p1 (Int.le_of_lt (Int.pow_pos (by decide)));have e:(2:Int) ^ n*2 ^ (64 - n)=18446744073709551616:=by rw[<-Int.pow_add,show n+(64 - n)=64 by omega];rfl
 rw[<-e];exact Int.mul_lt_mul_of_pos_right p2 (Int.pow_pos (by decide))
def dZ7 (Y s a b c d e q r:Int)(hb:2147483648<=a/\a<4294967296)(hr:0<=r/\r<4294967296):∃q':Int,bP (O X) [2,8,9,10,11,13,14,15,16] DS [(2,.i .u64 Y),(8,.i .u64 s),(9,.i .u64 a),(10,.i .u64 b),(11,.i .u64 c),(13,.i .u64 d),(14,.i .u64 e),(15,.i .u64 q),(16,.i .u64 r)]=some (.e 0,[(2,.i .u64 Y),(8,.i .u64 s),(9,.i .u64 a),(10,.i .u64 b),(11,.i .u64 c),(13,.i .u64 d),(14,.i .u64 e),(15,.i .u64 q')]):=by
 obtain⟨r',h,q',rfl⟩:=dW (o:=O X) (kin:=[2,8,9,10,11,13,14,15,16]) (c:=DS) (fun i aA=>∃q r:Int,aA=[(2,.i .u64 Y),(8,.i .u64 s),(9,.i .u64 a),(10,.i .u64 b),(11,.i .u64 c),(13,.i .u64 d),(14,.i .u64 e),(15,.i .u64 q),(16,.i .u64 r)]/\(i:Int)*2147483648<=r/\r<4294967296) 2 (fun r=>∃q':Int,r=(.e 0,[(2,.i .u64 Y),(8,.i .u64 s),(9,.i .u64 a),(10,.i .u64 b),(11,.i .u64 c),(13,.i .u64 d),(14,.i .u64 e),(15,.i .u64 q')])) (fun i aA hI=>by obtain⟨_,_,rfl,_⟩:=hI;simp) (fun i aA hi hI=>by
  obtain⟨q,r,rfl,h1,h2⟩:=hI;have hw:IntKind.u64.wrap (r+a)=r+a:=by rw[IntKind.wrap_u64];omega
  have step:∀(hc:4294967296<=q\/IntKind.u64.wrap (IntKind.u64.wrap (4294967296*r)+d)<IntKind.u64.wrap (q*b)),(∃aN,kE [2,8,9,10,11,13,14,15,16] (bI (O X) DS [(2,.i .u64 Y),(8,.i .u64 s),(9,.i .u64 a),(10,.i .u64 b),(11,.i .u64 c),(13,.i .u64 d),(14,.i .u64 e),(15,.i .u64 q),(16,.i .u64 r)])=some (.n,aN)/\∃q r:Int,aN=[(2,.i .u64 Y),(8,.i .u64 s),(9,.i .u64 a),(10,.i .u64 b),(11,.i .u64 c),(13,.i .u64 d),(14,.i .u64 e),(15,.i .u64 q),(16,.i .u64 r)]/\((i+1:Nat):Int)*2147483648<=r/\r<4294967296)\/∃r',bI (O X) DS [(2,.i .u64 Y),(8,.i .u64 s),(9,.i .u64 a),(10,.i .u64 b),(11,.i .u64 c),(13,.i .u64 d),(14,.i .u64 e),(15,.i .u64 q),(16,.i .u64 r)]=some r'/\r'.1≠ .n/\∃q':Int,r'=(.e 0,[(2,.i .u64 Y),(8,.i .u64 s),(9,.i .u64 a),(10,.i .u64 b),(11,.i .u64 c),(13,.i .u64 d),(14,.i .u64 e),(15,.i .u64 q')]):=by intro hc;by_cases c3:4294967296<=r+a;right;refine⟨(.e 0,[(2,.i .u64 Y),(8,.i .u64 s),(9,.i .u64 a),(10,.i .u64 b),(11,.i .u64 c),(13,.i .u64 d),(14,.i .u64 e),(15,.i .u64 (IntKind.u64.wrap (q - 1)))]),?_,by simp,_,rfl⟩;by_cases c1:4294967296<=q;simp[DS,c1,hw,c3];have c2:=hc.resolve_left c1;simp[DS,c1,c2,hw,c3];left;refine⟨[(2,.i .u64 Y),(8,.i .u64 s),(9,.i .u64 a),(10,.i .u64 b),(11,.i .u64 c),(13,.i .u64 d),(14,.i .u64 e),(15,.i .u64 (IntKind.u64.wrap (q - 1))),(16,.i .u64 (r+a))],?_,_,_,rfl,by omega,by omega⟩;by_cases c1:4294967296<=q;simp[DS,c1,hw,c3];have c2:=hc.resolve_left c1;simp[DS,c1,c2,hw,c3]
  by_cases c1:4294967296<=q;exact step (.inl c1);by_cases c2:IntKind.u64.wrap (IntKind.u64.wrap (4294967296*r)+d)<IntKind.u64.wrap (q*b);exact step (.inr c2);right;exact⟨(.e 0,[(2,.i .u64 Y),(8,.i .u64 s),(9,.i .u64 a),(10,.i .u64 b),(11,.i .u64 c),(13,.i .u64 d),(14,.i .u64 e),(15,.i .u64 q)]),by simp[DS,c1,c2],by simp,_,rfl⟩) (fun aA hI=>by
  obtain⟨q,r,rfl,h1,h2⟩:=hI;omega) 2 0 [(2,.i .u64 Y),(8,.i .u64 s),(9,.i .u64 a),(10,.i .u64 b),(11,.i .u64 c),(13,.i .u64 d),(14,.i .u64 e),(15,.i .u64 q),(16,.i .u64 r)] (by omega) ⟨q,r,rfl,by omega,hr.2⟩
 exact⟨q',h⟩
def dZ6 (Y s a b e c u q r:Int)(hb:2147483648<=a/\a<4294967296)(hr:0<=r/\r<4294967296):∃q':Int,bP (O X) [2,8,9,10,14,15,16,17,18] DR [(2,.i .u64 Y),(8,.i .u64 s),(9,.i .u64 a),(10,.i .u64 b),(14,.i .u64 e),(15,.i .u64 c),(16,.i .u64 r),(17,.i .u64 u),(18,.i .u64 q)]=some (.e 2,[(2,.i .u64 Y),(8,.i .u64 s),(14,.i .u64 e),(15,.i .u64 c),(17,.i .u64 u),(18,.i .u64 q')]):=by
 obtain⟨r',h,q',rfl⟩:=dW (o:=O X) (kin:=[2,8,9,10,14,15,16,17,18]) (c:=DR) (fun i aA=>∃q r:Int,aA=[(2,.i .u64 Y),(8,.i .u64 s),(9,.i .u64 a),(10,.i .u64 b),(14,.i .u64 e),(15,.i .u64 c),(16,.i .u64 r),(17,.i .u64 u),(18,.i .u64 q)]/\(i:Int)*2147483648<=r/\r<4294967296) 2 (fun r=>∃q':Int,r=(.e 2,[(2,.i .u64 Y),(8,.i .u64 s),(14,.i .u64 e),(15,.i .u64 c),(17,.i .u64 u),(18,.i .u64 q')])) (fun i aA hI=>by obtain⟨_,_,rfl,_⟩:=hI;simp) (fun i aA hi hI=>by
  obtain⟨q,r,rfl,h1,h2⟩:=hI;have hw:IntKind.u64.wrap (r+a)=r+a:=by rw[IntKind.wrap_u64];omega
  have step:∀(hc:4294967296<=q\/IntKind.u64.wrap (IntKind.u64.wrap (4294967296*r)+e)<IntKind.u64.wrap (q*b)),(∃aN,kE [2,8,9,10,14,15,16,17,18] (bI (O X) DR [(2,.i .u64 Y),(8,.i .u64 s),(9,.i .u64 a),(10,.i .u64 b),(14,.i .u64 e),(15,.i .u64 c),(16,.i .u64 r),(17,.i .u64 u),(18,.i .u64 q)])=some (.n,aN)/\∃q r:Int,aN=[(2,.i .u64 Y),(8,.i .u64 s),(9,.i .u64 a),(10,.i .u64 b),(14,.i .u64 e),(15,.i .u64 c),(16,.i .u64 r),(17,.i .u64 u),(18,.i .u64 q)]/\((i+1:Nat):Int)*2147483648<=r/\r<4294967296)\/∃r',bI (O X) DR [(2,.i .u64 Y),(8,.i .u64 s),(9,.i .u64 a),(10,.i .u64 b),(14,.i .u64 e),(15,.i .u64 c),(16,.i .u64 r),(17,.i .u64 u),(18,.i .u64 q)]=some r'/\r'.1≠ .n/\∃q':Int,r'=(.e 2,[(2,.i .u64 Y),(8,.i .u64 s),(14,.i .u64 e),(15,.i .u64 c),(17,.i .u64 u),(18,.i .u64 q')]):=by intro hc;by_cases c3:4294967296<=r+a;right;refine⟨(.e 2,[(2,.i .u64 Y),(8,.i .u64 s),(14,.i .u64 e),(15,.i .u64 c),(17,.i .u64 u),(18,.i .u64 (IntKind.u64.wrap (q - 1)))]),?_,by simp,_,rfl⟩;by_cases c1:4294967296<=q;simp[DR,c1,hw,c3];have c2:=hc.resolve_left c1;simp[DR,c1,c2,hw,c3];left;refine⟨[(2,.i .u64 Y),(8,.i .u64 s),(9,.i .u64 a),(10,.i .u64 b),(14,.i .u64 e),(15,.i .u64 c),(16,.i .u64 (r+a)),(17,.i .u64 u),(18,.i .u64 (IntKind.u64.wrap (q - 1)))],?_,_,_,rfl,by omega,by omega⟩;by_cases c1:4294967296<=q;simp[DR,c1,hw,c3];have c2:=hc.resolve_left c1;simp[DR,c1,c2,hw,c3]
  by_cases c1:4294967296<=q;exact step (.inl c1);by_cases c2:IntKind.u64.wrap (IntKind.u64.wrap (4294967296*r)+e)<IntKind.u64.wrap (q*b);exact step (.inr c2);right;exact⟨(.e 2,[(2,.i .u64 Y),(8,.i .u64 s),(14,.i .u64 e),(15,.i .u64 c),(17,.i .u64 u),(18,.i .u64 q)]),by simp[DR,c1,c2],by simp,_,rfl⟩) (fun aA hI=>by
  obtain⟨q,r,rfl,h1,h2⟩:=hI;omega) 2 0 [(2,.i .u64 Y),(8,.i .u64 s),(9,.i .u64 a),(10,.i .u64 b),(14,.i .u64 e),(15,.i .u64 c),(16,.i .u64 r),(17,.i .u64 u),(18,.i .u64 q)] (by omega) ⟨q,r,rfl,by omega,hr.2⟩
 exact⟨q',h⟩
def bE2 (c a:Int)(hc:cG c)(ha:2147483648<=a/\a<4294967296):0<=IntKind.u64.wrap (c - IntKind.u64.wrap (IntKind.u64.wrap (c.tdiv a)*a))/\IntKind.u64.wrap (c - IntKind.u64.wrap (IntKind.u64.wrap (c.tdiv a)*a))<4294967296:=by
 unfold cG at hc;have h1:c.tdiv a=c / a:=N8 hc.1;have h2:=Int.mul_ediv_add_emod c a;have h3:=Ti c (show a≠0 by omega);have h4:=Th c (show 0<a by omega);have h5:0<=c / a:=Int.ediv_nonneg hc.1 (by omega);have h6:c / a<=c:=Int.ediv_le_self _ hc.1;have h7:IntKind.u64.wrap (c / a)=c / a:=by rw[IntKind.wrap_u64];omega
 rw[h1,h7];have h8:c / a*a=a*(c / a):=Int.mul_comm ..;have h9:0<=a*(c / a):=Int.mul_nonneg (by omega) h5;rw[h8];generalize a*(c / a)=p at h2 h9⊢;have oT:IntKind.u64.wrap p=p:=by rw[IntKind.wrap_u64];omega
 rw[oT,IntKind.wrap_u64];omega
def N2 (X:aU):Prop:=∀hi lo y:Int,cG hi->cG lo->cG y->hi<y->∃q r:Int,O X 328 [.i .u64 hi,.i .u64 lo,.i .u64 y]=some (.t [.i .u64 q,.i .u64 r])/\cG q/\cG r
def xd8 (hi lo y:Int)(s:Nat)(h341:O X 341 [.i .u64 y]=some (.i .i64 s))(ws:IntKind.u64.wrap (s:Int)=s):bI (O X) aD4 [(0,.i .u64 hi),(1,.i .u64 lo),(2,.i .u64 y),(6,.i .u64 0),(7,.i .u64 0),(20,.b false),(24,.b false),(27,.b false)]=some (.n,[(0,.i .u64 hi),(1,.i .u64 lo),(2,.i .u64 y),(6,.i .u64 0),(7,.i .u64 0),(8,.i .u64 (s:Int)),(20,.b false),(24,.b false),(27,.b false)]):=by simp[aD4,h341,ws]
def xd2 (hi lo y Y:Int)(s:Nat)(ms:min s IntKind.u64.bits=s)(wY:IntKind.u64.wrap (y*2 ^ s)=Y):bI (O X) aD2 [(0,.i .u64 hi),(1,.i .u64 lo),(2,.i .u64 y),(6,.i .u64 0),(7,.i .u64 0),(8,.i .u64 (s:Int)),(20,.b false),(24,.b false),(27,.b false)]=some (.n,[(0,.i .u64 hi),(1,.i .u64 lo),(2,.i .u64 Y),(6,.i .u64 0),(7,.i .u64 0),(8,.i .u64 (s:Int)),(20,.b false),(24,.b false),(27,.b false)]):=by simp[aD2,ZH,ms,wY]
def xd9 (hi lo Y a:Int)(s:Nat)(eY:Y.fdiv 4294967296=a):bI (O X) aD3 [(0,.i .u64 hi),(1,.i .u64 lo),(2,.i .u64 Y),(6,.i .u64 0),(7,.i .u64 0),(8,.i .u64 (s:Int)),(20,.b false),(24,.b false),(27,.b false)]=some (.n,[(0,.i .u64 hi),(1,.i .u64 lo),(2,.i .u64 Y),(6,.i .u64 0),(7,.i .u64 0),(8,.i .u64 (s:Int)),(9,.i .u64 a),(20,.b false),(24,.b false),(27,.b false)]):=by simp[aD3,Eo,eY]
def cG6 (hi lo Y a:Int)(s:Nat):∃b:Int,bI (O X) aE4 [(0,.i .u64 hi),(1,.i .u64 lo),(2,.i .u64 Y),(6,.i .u64 0),(7,.i .u64 0),(8,.i .u64 (s:Int)),(9,.i .u64 a),(20,.b false),(24,.b false),(27,.b false)]=some (.n,[(0,.i .u64 hi),(1,.i .u64 lo),(2,.i .u64 Y),(6,.i .u64 0),(7,.i .u64 0),(8,.i .u64 (s:Int)),(9,.i .u64 a),(10,.i .u64 b),(20,.b false),(24,.b false),(27,.b false)]):=⟨_,by simp[aE4];rfl⟩
def cG5 (hi lo Y a b:Int)(s:Nat)(w64:IntKind.u64.wrap (64 - (s:Int))=((64 - s:Nat):Int)):∃c:Int,bI (O X) aE3 [(0,.i .u64 hi),(1,.i .u64 lo),(2,.i .u64 Y),(6,.i .u64 0),(7,.i .u64 0),(8,.i .u64 (s:Int)),(9,.i .u64 a),(10,.i .u64 b),(20,.b false),(24,.b false),(27,.b false)]=some (.n,[(0,.i .u64 hi),(1,.i .u64 lo),(2,.i .u64 Y),(6,.i .u64 0),(7,.i .u64 0),(8,.i .u64 (s:Int)),(9,.i .u64 a),(10,.i .u64 b),(11,.i .u64 c),(20,.b false),(24,.b false),(27,.b false)])/\cG c:=⟨_,by simp[aE3,ZH,O7,w64];rfl,cG.bits ..⟩
def cG4 (hi lo Y a b c:Int)(s:Nat):∃d:Int,bI (O X) aE2 [(0,.i .u64 hi),(1,.i .u64 lo),(2,.i .u64 Y),(6,.i .u64 0),(7,.i .u64 0),(8,.i .u64 (s:Int)),(9,.i .u64 a),(10,.i .u64 b),(11,.i .u64 c),(20,.b false),(24,.b false),(27,.b false)]=some (.n,[(0,.i .u64 hi),(1,.i .u64 lo),(2,.i .u64 Y),(6,.i .u64 0),(7,.i .u64 0),(8,.i .u64 (s:Int)),(9,.i .u64 a),(10,.i .u64 b),(11,.i .u64 c),(12,.i .u64 d),(20,.b false),(24,.b false),(27,.b false)])/\cG d:=⟨_,by simp[aE2,ZH];rfl,cG.wrap _⟩
def cG3 (hi lo Y a b c d:Int)(s:Nat):∃f:Int,bI (O X) aE1 [(0,.i .u64 hi),(1,.i .u64 lo),(2,.i .u64 Y),(6,.i .u64 0),(7,.i .u64 0),(8,.i .u64 (s:Int)),(9,.i .u64 a),(10,.i .u64 b),(11,.i .u64 c),(12,.i .u64 d),(20,.b false),(24,.b false),(27,.b false)]=some (.n,[(0,.i .u64 hi),(1,.i .u64 lo),(2,.i .u64 Y),(6,.i .u64 0),(7,.i .u64 0),(8,.i .u64 (s:Int)),(9,.i .u64 a),(10,.i .u64 b),(11,.i .u64 c),(12,.i .u64 d),(13,.i .u64 f),(20,.b false),(24,.b false),(27,.b false)]):=⟨_,by simp[aE1,Eo];rfl⟩
def cG2 (hi lo Y a b c d f:Int)(s:Nat):∃g:Int,bI (O X) aE0 [(0,.i .u64 hi),(1,.i .u64 lo),(2,.i .u64 Y),(6,.i .u64 0),(7,.i .u64 0),(8,.i .u64 (s:Int)),(9,.i .u64 a),(10,.i .u64 b),(11,.i .u64 c),(12,.i .u64 d),(13,.i .u64 f),(20,.b false),(24,.b false),(27,.b false)]=some (.n,[(0,.i .u64 hi),(1,.i .u64 lo),(2,.i .u64 Y),(6,.i .u64 0),(7,.i .u64 0),(8,.i .u64 (s:Int)),(9,.i .u64 a),(10,.i .u64 b),(11,.i .u64 c),(12,.i .u64 d),(13,.i .u64 f),(14,.i .u64 g),(20,.b false),(24,.b false),(27,.b false)]):=⟨_,by simp[aE0];rfl⟩
def cG1 (hi lo Y a b c d f g:Int)(s:Nat)(a0:a≠0):bI (O X) aD9 [(0,.i .u64 hi),(1,.i .u64 lo),(2,.i .u64 Y),(6,.i .u64 0),(7,.i .u64 0),(8,.i .u64 (s:Int)),(9,.i .u64 a),(10,.i .u64 b),(11,.i .u64 c),(12,.i .u64 d),(13,.i .u64 f),(14,.i .u64 g),(20,.b false),(24,.b false),(27,.b false)]=some (.n,[(0,.i .u64 hi),(1,.i .u64 lo),(2,.i .u64 Y),(6,.i .u64 0),(7,.i .u64 0),(8,.i .u64 (s:Int)),(9,.i .u64 a),(10,.i .u64 b),(11,.i .u64 c),(12,.i .u64 d),(13,.i .u64 f),(14,.i .u64 g),(15,.i .u64 (IntKind.u64.wrap (c.tdiv a))),(20,.b false),(24,.b false),(27,.b false)]):=by simp[aD9,a0]
def cG0 (hi lo Y a b c d f g q0:Int)(s:Nat):bI (O X) aD8 [(0,.i .u64 hi),(1,.i .u64 lo),(2,.i .u64 Y),(6,.i .u64 0),(7,.i .u64 0),(8,.i .u64 (s:Int)),(9,.i .u64 a),(10,.i .u64 b),(11,.i .u64 c),(12,.i .u64 d),(13,.i .u64 f),(14,.i .u64 g),(15,.i .u64 q0),(20,.b false),(24,.b false),(27,.b false)]=some (.n,[(0,.i .u64 hi),(1,.i .u64 lo),(2,.i .u64 Y),(6,.i .u64 0),(7,.i .u64 0),(8,.i .u64 (s:Int)),(9,.i .u64 a),(10,.i .u64 b),(11,.i .u64 c),(12,.i .u64 d),(13,.i .u64 f),(14,.i .u64 g),(15,.i .u64 q0),(16,.i .u64 (IntKind.u64.wrap (c - IntKind.u64.wrap (q0*a)))),(20,.b false),(24,.b false),(27,.b false)]):=by simp[aD8]
def cF8 (Y a b c f g q:Int)(s:Nat):∃u:Int,bI (O X) aD6 [(2,.i .u64 Y),(8,.i .u64 (s:Int)),(9,.i .u64 a),(10,.i .u64 b),(11,.i .u64 c),(13,.i .u64 f),(14,.i .u64 g),(15,.i .u64 q)]=some (.n,[(2,.i .u64 Y),(8,.i .u64 (s:Int)),(9,.i .u64 a),(10,.i .u64 b),(11,.i .u64 c),(13,.i .u64 f),(14,.i .u64 g),(15,.i .u64 q),(17,.i .u64 u)])/\cG u:=⟨_,by simp[aD6];rfl,cG.wrap _⟩
def cF7 (Y a b c f g q u:Int)(s:Nat)(a0:a≠0):bI (O X) aD5 [(2,.i .u64 Y),(8,.i .u64 (s:Int)),(9,.i .u64 a),(10,.i .u64 b),(11,.i .u64 c),(13,.i .u64 f),(14,.i .u64 g),(15,.i .u64 q),(17,.i .u64 u)]=some (.n,[(2,.i .u64 Y),(8,.i .u64 (s:Int)),(9,.i .u64 a),(10,.i .u64 b),(11,.i .u64 c),(13,.i .u64 f),(14,.i .u64 g),(15,.i .u64 q),(17,.i .u64 u),(18,.i .u64 (IntKind.u64.wrap (u.tdiv a)))]):=by simp[aD5,a0]
def cF9 (Y a b c f g q u q1:Int)(s:Nat):bI (O X) aD7 [(2,.i .u64 Y),(8,.i .u64 (s:Int)),(9,.i .u64 a),(10,.i .u64 b),(11,.i .u64 c),(13,.i .u64 f),(14,.i .u64 g),(15,.i .u64 q),(17,.i .u64 u),(18,.i .u64 q1)]=some (.n,[(2,.i .u64 Y),(8,.i .u64 (s:Int)),(9,.i .u64 a),(10,.i .u64 b),(11,.i .u64 c),(13,.i .u64 f),(14,.i .u64 g),(15,.i .u64 q),(16,.i .u64 (IntKind.u64.wrap (u - IntKind.u64.wrap (q1*a)))),(17,.i .u64 u),(18,.i .u64 q1)]):=by simp[aD7]
def dD5 (z:Int)(s:Nat)(hw:cG z):cG (z.fdiv (2 ^ s)):=by unfold cG at hw⊢;have h1:z.fdiv (2 ^ s)=z / 2 ^ s:=zS _ (Int.le_of_lt (Int.pow_pos (by decide)));have h2:0<=z / 2 ^ s:=Int.ediv_nonneg hw.1 (Int.le_of_lt (Int.pow_pos (by decide)));have h3:z / 2 ^ s<=z:=Int.ediv_le_self _ hw.1;rw[h1];omega
def cF2 (Y g q u p:Int)(s:Nat)(ms:min s IntKind.u64.bits=s):∃Q R:Int,wH [.tmp 6,.tmp 7] (bI (O X) aD1 [(2,.i .u64 Y),(8,.i .u64 (s:Int)),(14,.i .u64 g),(15,.i .u64 q),(17,.i .u64 u),(18,.i .u64 p)])=some (.t [.i .u64 Q,.i .u64 R])/\cG Q/\cG R:=⟨_,_,by simp[aD1,O7,ms];exact⟨rfl,rfl⟩,cG.wrap _,dD5 _ s (cG.wrap _)⟩
def dT2 (s:Nat)(h:s<=63):min s IntKind.u64.bits=s:=Na (show s<=64 by omega)
def sW {o:aU}{a b:C}{aA aN:aG}(h:bI o a aA=some (.n,aN)):bI o (.seq a b) aA=bI o b aN:=by rw[eP3,h];rfl
def c67:C:= dV 6 uV [(7,uV)]
def c20:C:= iW 20 (tS .eql 2 0) 20 JX
def K8:C:= iW 24 (jE .leq 2 cI) 24 JX
def HK:C:= jB 27 (tS .eql 0 0) 27 [(6,jE .quo 1 fB),(7,jE .rem 1 fB)] 6 [7]
def bZ7:K2.body= .seq c67 (.seq c20 (.seq K8 (.seq HK aE5))):=rfl
def r67 (hi lo y:Int):bI (O X) c67 [(0,.i .u64 hi),(1,.i .u64 lo),(2,.i .u64 y)]=some (.n,[(0,.i .u64 hi),(1,.i .u64 lo),(2,.i .u64 y),(6,.i .u64 0),(7,.i .u64 0)]):=by simp[c67]
def r20 (hi lo y:Int)(h:y≠0):bI (O X) c20 [(0,.i .u64 hi),(1,.i .u64 lo),(2,.i .u64 y),(6,.i .u64 0),(7,.i .u64 0)]=some (.n,[(0,.i .u64 hi),(1,.i .u64 lo),(2,.i .u64 y),(6,.i .u64 0),(7,.i .u64 0),(20,.b false)]):=by simp[c20,h]
def r24 (hi lo y:Int)(h:¬y<=hi):bI (O X) K8 [(0,.i .u64 hi),(1,.i .u64 lo),(2,.i .u64 y),(6,.i .u64 0),(7,.i .u64 0),(20,.b false)]=some (.n,[(0,.i .u64 hi),(1,.i .u64 lo),(2,.i .u64 y),(6,.i .u64 0),(7,.i .u64 0),(20,.b false),(24,.b false)]):=by simp[K8,h]
def dF0 (hi lo y:Int)(h:hi≠0):bI (O X) HK [(0,.i .u64 hi),(1,.i .u64 lo),(2,.i .u64 y),(6,.i .u64 0),(7,.i .u64 0),(20,.b false),(24,.b false)]=some (.n,[(0,.i .u64 hi),(1,.i .u64 lo),(2,.i .u64 y),(6,.i .u64 0),(7,.i .u64 0),(20,.b false),(24,.b false),(27,.b false)]):=by simp[HK,h]
def dE9 (lo y:Int)(h:y≠0)(Z:C):wH [.tmp 6,.tmp 7] (bI (O X) (.seq HK Z) [(0,.i .u64 0),(1,.i .u64 lo),(2,.i .u64 y),(6,.i .u64 0),(7,.i .u64 0),(20,.b false),(24,.b false)])=some (.t [.i .u64 (IntKind.u64.wrap (lo.tdiv y)),.i .u64 (lo.tmod y)]):=by simp[HK,h]
def eT6 (lo y:Int)(lU:cG lo)(yU:cG y)(bE:0<y):∃q r:Int,O X 328 [.i .u64 0,.i .u64 lo,.i .u64 y]=some (.t [.i .u64 q,.i .u64 r])/\cG q/\cG r:=by
 have e0:K2=WF:=rfl;have tb:bJ 328=some K2:=by rw[e0];exact aW5
 have Dx:y≠0:=by omega
 have yB:¬y<=0:=by omega
 have h1:lo.tmod y=lo % y:=GN lU.1;have h2:=Ti lo Dx;have h3:=Th lo bE;refine⟨IntKind.u64.wrap (lo.tdiv y),lo.tmod y,aI (fc:=K2) tb rfl rfl ?_,cG.wrap _,by unfold cG at yU⊢;omega⟩;rw[bZ7];exact(jV (wH [.tmp 6,.tmp 7]) ((sW (r67 0 lo y)).trans ((sW (r20 0 lo y Dx)).trans (sW (r24 0 lo y yB))))).trans (dE9 lo y Dx aE5)
def rb1 (aA aN:aG)(h:bP (O X) [2,8,9,10,11,13,14,15,16] DS (keepE [2,8,9,10,11,13,14,15,16] aA)=some (.e 0,aN)):bI (O X) (.blk 0 (.loop [2,8,9,10,11,13,14,15,16] DS)) aA=some (.n,aN):=by simp[bA,h]
def rb2 (aA aN:aG)(h:bP (O X) [2,8,9,10,14,15,16,17,18] DR (keepE [2,8,9,10,14,15,16,17,18] aA)=some (.e 2,aN)):bI (O X) (.blk 2 (.loop [2,8,9,10,14,15,16,17,18] DR)) aA=some (.n,aN):=by simp[bA,h]
def eS2:N2 X:=by
 intro hi lo y hU lU yU bE;by_cases h0:hi=0;subst h0;exact eT6 lo y lU yU bE;have e0:K2=WF:=rfl;have tb:bJ 328=some K2:=by rw[e0];exact aW5
 have Dx:y≠0:=by unfold cG at hU;omega
 have yB:¬y<=hi:=by omega
 obtain⟨s,h341,s63,y1,y2⟩:=cH9 (X:=X) y yU (by unfold cG at hU;omega);have ws:IntKind.u64.wrap (s:Int)=s:=by rw[IntKind.wrap_u64];omega
 have ms:=dT2 s s63;have w64:IntKind.u64.wrap (64 - (s:Int))=((64 - s:Nat):Int):=by rw[IntKind.wrap_u64];omega
 obtain⟨Y,hY⟩:∃Y,Y=y*2 ^ s:=⟨_,rfl⟩;rw[<-hY] at y1 y2;have wY:IntKind.u64.wrap (y*2 ^ s)=Y:=by rw[<-hY,IntKind.wrap_u64];omega
 obtain⟨a,ea,ha⟩:∃a:Int,Y / 4294967296=a/\2147483648<=a/\a<4294967296:=⟨_,rfl,by omega,by omega⟩;have eY:Y.fdiv 4294967296=a:=by rw[zS _ (by decide)];exact ea
 have a0:a≠0:=by omega
 clear hY ea;have h8:=xd8 (X:=X) hi lo y s h341 ws;have h2:=xd2 (X:=X) hi lo y Y s ms wY;have h9:=xd9 (X:=X) hi lo Y a s eY;obtain⟨b,oT⟩:=cG6 (X:=X) hi lo Y a s;obtain⟨c,uG,hc⟩:=cG5 (X:=X) hi lo Y a b s w64;obtain⟨d,kF,hd⟩:=cG4 (X:=X) hi lo Y a b c s;obtain⟨f,qS⟩:=cG3 (X:=X) hi lo Y a b c d s;obtain⟨g,h14⟩:=cG2 (X:=X) hi lo Y a b c d f s;have hr:=bE2 c a hc ha;have Fb:=cG1 (X:=X) hi lo Y a b c d f g s a0;generalize IntKind.u64.wrap (c.tdiv a)=q0 at Fb hr;have uF:=cG0 (X:=X) hi lo Y a b c d f g q0 s;generalize IntKind.u64.wrap (c - IntKind.u64.wrap (q0*a))=r at uF hr;obtain⟨q,iX⟩:=dZ7 (X:=X) Y s a b c f g q0 r ha hr;obtain⟨u,h17,hu⟩:=cF8 (X:=X) Y a b c f g q s;have mQ:=bE2 u a hu ha;have h18:=cF7 (X:=X) Y a b c f g q u s a0;generalize IntKind.u64.wrap (u.tdiv a)=q1 at h18 mQ;have h16b:=cF9 (X:=X) Y a b c f g q u q1 s;generalize IntKind.u64.wrap (u - IntKind.u64.wrap (q1*a))=r' at h16b mQ;obtain⟨p,kX⟩:=dZ6 (X:=X) Y s a b g q u q1 r' ha mQ;obtain⟨Q,R,htail,hQ,hR⟩:=cF2 (X:=X) Y g q u p s ms;refine⟨Q,R,aI (fc:=K2) tb rfl rfl ?_,hQ,hR⟩;rw[bZ7];refine(jV (wH [.tmp 6,.tmp 7]) ((sW (r67 hi lo y)).trans ((sW (r20 hi lo y Dx)).trans ((sW (r24 hi lo y yB)).trans ((sW (dF0 hi lo y h0)).trans ?_))))).trans htail;exact(sW h8).trans ((sW h2).trans ((sW h9).trans ((sW oT).trans ((sW uG).trans ((sW kF).trans ((sW qS).trans ((sW h14).trans ((sW Fb).trans ((sW uF).trans ((sW (rb1 _ _ iX)).trans ((sW h17).trans ((sW h18).trans ((sW h16b).trans (sW (rb2 _ _ kX)))))))))))))))
def aT8 (d:Int):O X 188 [.i .i64 d]=some (.b (decide (0<=d/\d<=73048))):=by refine aI (fc:=aL1) cU4 rfl rfl ?_;by_cases h:0<=d<;>simp[aL1,h]
def sJ (y:Int):Int:=365*(y - 2000)+(if 2100<y then(y - 2000+3) / 4 - 1 else(y - 2000+3) / 4)
def UQ (y:Int)(h:2000<=y/\y<=3000):O X 231 [.i .i64 y]=some (.i .i64 (sJ y)):=by have cU:IntKind.i64.wrap (y - 2000)=y - 2000:=bC _ (by omega);have eZ:IntKind.i64.wrap (y - 2000+3)=y - 2000+3:=bC _ (by omega);have hq:(y - 2000+3).tdiv 4=(y - 2000+3) / 4:=N8 (by omega);have s8:IntKind.i64.wrap ((y - 2000+3) / 4)=(y - 2000+3) / 4:=bC _ (by omega);have hw4:IntKind.i64.wrap ((y - 2000+3) / 4 - 1)=(y - 2000+3) / 4 - 1:=bC _ (by omega);have hw5:IntKind.i64.wrap (365*(y - 2000))=365*(y - 2000):=bC _ (by omega);refine aI (fc:=WK) cS9 rfl rfl ?_;unfold sJ;by_cases c:2100<y;have hw6:IntKind.i64.wrap (365*(y - 2000)+((y - 2000+3) / 4 - 1))=365*(y - 2000)+((y - 2000+3) / 4 - 1):=bC _ (by omega);simp[WK,cU,eZ,hq,s8,hw4,hw5,hw6,c];have hw6:IntKind.i64.wrap (365*(y - 2000)+(y - 2000+3) / 4)=365*(y - 2000)+(y - 2000+3) / 4:=bC _ (by omega);simp[WK,cU,eZ,hq,s8,hw4,hw5,hw6,c]
def Gr (y:Int):Bool:=y.tmod 4=0&&(!(y.tmod 100=0)||y.tmod 400=0)
def cJ5 (y:Int):O X 251 [.i .i64 y]=some (.b (Gr y)):=by refine aI (fc:=aI5) cS3 rfl rfl ?_;unfold Gr;by_cases c1:y.tmod 4=0<;>by_cases c2:y.tmod 100=0<;>simp[aI5,c1,c2]
def Ds (b:Bool)(m:Int):Int:=if m=2 then(if b=true then 29 else 28) else if m=4\/m=6\/m=9\/m=11 then 30 else 31
def UP (y m:Int)(hm:1<=m/\m<=12):O X 232 [.i .i64 y,.i .i64 m]=some (.i .i64 (Ds (Gr y) m)):=by
 have h:=cJ5 (X:=X) y;generalize Gr y=t at h⊢;have kF:m=1\/m=2\/m=3\/m=4\/m=5\/m=6\/m=7\/m=8\/m=9\/m=10\/m=11\/m=12:=by omega
 refine aI (fc:=WJ) cS8 rfl rfl ?_;rcases kF with rfl|rfl|rfl|rfl|rfl|rfl|rfl|rfl|rfl|rfl|rfl|rfl
 rotate_left
 cases t<;>simp[WJ,h,Ds];all_goals simp[WJ,Ds]
def wV (b:Bool):Nat->Int
 |0=>0|m+1=>wV b m+Ds b (m+1)
def aF4 (b:Bool)(m:Nat)(h:m<=12):0<=wV b m/\wV b m<=366:=by
 have kF:m=0\/m=1\/m=2\/m=3\/m=4\/m=5\/m=6\/m=7\/m=8\/m=9\/m=10\/m=11\/m=12:=by omega
 rcases kF with rfl|rfl|rfl|rfl|rfl|rfl|rfl|rfl|rfl|rfl|rfl|rfl|rfl<;>cases b<;>decide
def eT7 (b:Bool):wV b 12=if b=true then 366 else 365:=by cases b<;>decide
def eZ4 (y:Int)(h:2000<=y/\y<=2199):sJ (y+1) - sJ y=if Gr y=true then 366 else 365:=by have h4:y.tmod 4=y % 4:=GN (by omega);have PD:y.tmod 100=y % 100:=GN (by omega);have h400:y.tmod 400=y % 400:=GN (by omega);unfold sJ Gr;rw[h4,PD,h400];by_cases c1:y % 4=0;by_cases c2:y % 100=0;by_cases c3:y % 400=0;simp[c1,c2,c3];split<;>split<;>omega;simp[c1,c2,c3];split<;>split<;>omega;simp[c1,c2];split<;>split<;>omega;simp[c1];split<;>split<;>omega
def eA9 (d:Int)(hd:0<=d/\d<=73048):∃y:Int,bP (O X) [0,5] Pc [(0,.i .i64 d),(5,.i .i64 (2000+d / 366))]=some (.e 0,[(0,.i .i64 d),(5,.i .i64 y)])/\2000<=y/\y<=2199/\sJ y<=d/\d<sJ (y+1):=by
 have nT:sJ (2000+d / 366)<=d:=by unfold sJ;split<;>omega
 have Dx:2000+d / 366<=2199:=by omega
 have FZ:∀y:Int,y=2199->d<sJ (y+1):=fun y h=>by subst h;unfold sJ;omega
 obtain⟨r,hl,y,rfl,h1,h2,h3,h4⟩:=dW (o:=O X) (kin:=[0,5]) (c:=Pc) (fun i aA=>aA=[(0,.i .i64 d),(5,.i .i64 (2000+d / 366+(i:Int)))]/\2000+d / 366+(i:Int)<=2199/\sJ (2000+d / 366+(i:Int))<=d) (199 - d / 366).toNat (fun r=>∃y:Int,r=(.e 0,[(0,.i .i64 d),(5,.i .i64 y)])/\2000<=y/\y<=2199/\sJ y<=d/\d<sJ (y+1)) (fun i aA hI=>by obtain⟨rfl,_⟩:=hI;simp) (fun i aA hi hI=>by
  obtain⟨rfl,hy,hb⟩:=hI;generalize hY:2000+d / 366+(i:Int)=y at hy hb;have hw:IntKind.i64.wrap (y+1)=y+1:=bC _ (by omega);have KJ:=UQ (X:=X) (y+1) (by omega);by_cases c:sJ (y+1)<=d;left;have hy2:y≠2199:=fun h=>by have:=FZ y h;omega
  refine⟨[(0,.i .i64 d),(5,.i .i64 (y+1))],by simp[Pc,hw,KJ,c],?_,by omega,?_⟩;rw[show 2000+d / 366+((i+1:Nat):Int)=y+1 by omega];rw[show 2000+d / 366+((i+1:Nat):Int)=y+1 by omega];exact c;right;exact⟨(.e 0,[(0,.i .i64 d),(5,.i .i64 y)]),by simp[Pc,hw,KJ,c],by simp,y,rfl,by omega,hy,hb,by omega⟩) (fun aA hI=>by
  obtain⟨rfl,hy,hb⟩:=hI;generalize hY:2000+d / 366+(((199 - d / 366).toNat:Nat):Int)=y at hy hb;have hw:IntKind.i64.wrap (y+1)=y+1:=bC _ (by omega);have KJ:=UQ (X:=X) (y+1) (by omega);have bE:=FZ y (by omega);have c:¬sJ (y+1)<=d:=by omega
  exact⟨(.e 0,[(0,.i .i64 d),(5,.i .i64 y)]),by simp[Pc,hw,KJ,c],by simp,y,rfl,by omega,hy,hb,by omega⟩) (199 - d / 366).toNat 0 [(0,.i .i64 d),(5,.i .i64 (2000+d / 366+((0:Nat):Int)))] (by omega) ⟨rfl,by omega,by simpa using nT⟩
 simp only[fU,Int.add_zero] at hl;exact⟨y,hl,h1,h2,h3,h4⟩
def eA8 (y d:Int)(h0:0<=d)(hd:d<if Gr y=true then 366 else 365):∃m e:Int,bP (O X) [0,5,6] Pb [(0,.i .i64 d),(5,.i .i64 y),(6,.i .i64 1)]=some (.e 2,[(0,.i .i64 e),(5,.i .i64 y),(6,.i .i64 m)])/\1<=m/\m<=12:=by
 generalize hb:Gr y=b at hd;rw[<-eT7] at hd;have hd400:d<400:=by have:=aF4 b 12 (by omega);omega
 obtain⟨r,hl,m,e,rfl,h1,h2⟩:=dW (o:=O X) (kin:=[0,5,6]) (c:=Pb) (fun i aA=>aA=[(0,.i .i64 (d - wV b i)),(5,.i .i64 y),(6,.i .i64 ((i:Int)+1))]/\wV b i<=d) 11 (fun r=>∃m e:Int,r=(.e 2,[(0,.i .i64 e),(5,.i .i64 y),(6,.i .i64 m)])/\1<=m/\m<=12) (fun i aA hI=>by obtain⟨rfl,_⟩:=hI;simp) (fun i aA hi hI=>by
  obtain⟨rfl,hc⟩:=hI;have cK:=aF4 b i (by omega);have hcn:=aF4 b (i+1) (by omega);have Gz:=UP (X:=X) y ((i:Int)+1) (by omega);rw[hb] at Gz;have hs:wV b (i+1)=wV b i+Ds b ((i:Int)+1):=rfl;have hw:IntKind.i64.wrap ((i:Int)+1+1)=(i:Int)+1+1:=bC _ (by omega);by_cases c:Ds b ((i:Int)+1)<=d - wV b i;left;have eZ:IntKind.i64.wrap (d - wV b i - Ds b ((i:Int)+1))=d - wV b (i+1):=by rw[bC _ (by omega)];omega
  refine⟨[(0,.i .i64 (d - wV b (i+1))),(5,.i .i64 y),(6,.i .i64 (((i+1:Nat):Int)+1))],by simp[Pb,Gz,c,hw,eZ],rfl,by omega⟩;right;exact⟨(.e 2,[(0,.i .i64 (d - wV b i)),(5,.i .i64 y),(6,.i .i64 ((i:Int)+1))]),by simp[Pb,Gz,c],by simp,_,_,rfl,by omega,by omega⟩) (fun aA hI=>by
  obtain⟨rfl,hc⟩:=hI;have Gz:=UP (X:=X) y 12 (by omega);rw[hb] at Gz;have hs:wV b 12=wV b 11+Ds b 12:=rfl;have c:¬Ds b 12<=d - wV b 11:=by omega
  exact⟨(.e 2,[(0,.i .i64 (d - wV b 11)),(5,.i .i64 y),(6,.i .i64 12)]),by simp[Pb,Gz,c],by simp,_,_,rfl,by omega,by omega⟩) 11 0 [(0,.i .i64 (d - wV b 0)),(5,.i .i64 y),(6,.i .i64 (((0:Nat):Int)+1))] (by omega) ⟨rfl,h0⟩
 exact⟨m,e,by simpa[wV] using hl,h1,h2⟩
def cK5 (d:Int)(hd:0<=d/\d<=73048):∃y m e:Int,O X 215 [.i .i64 d]=some (.t [.i .i64 y,.i .i64 m,.i .i64 e])/\2000<=y/\y<=2199/\1<=m/\m<=12:=by
 have Fa:=aT8 (X:=X) d;rw[yS hd] at Fa;obtain⟨y,iX,y0,y1,b0,b1⟩:=eA9 (X:=X) d hd;have hbn:=eZ4 y ⟨y0,y1⟩;have sF:0<=sJ y/\sJ y<=100000:=by unfold sJ;split<;>omega
 obtain⟨m,e,kX,m1,m2⟩:=eA8 (X:=X) y (d - sJ y) (by omega) (by rw[<-hbn];omega);have hq:d.tdiv 366=d / 366:=N8 hd.1;have cU:IntKind.i64.wrap (d / 366)=d / 366:=bC _ (by omega);have eZ:IntKind.i64.wrap (2000+d / 366)=2000+d / 366:=bC _ (by omega);have s8:IntKind.i64.wrap (d - sJ y)=d - sJ y:=bC _ (by omega);have KJ:=UQ (X:=X) y (by omega);exact⟨y,m,_,aI (fc:=aJ8) cT5 rfl rfl (by simp[aJ8,bA,Fa,hq,cU,eZ,iX,KJ,s8,kX];rfl),y0,y1,m1,m2⟩
def cK4 (y m:Int)(hy:2000<=y/\y<=2199)(hm:1<=m/\m<=12):∃n:Int,O X 216 [.i .i64 y,.i .i64 m,.i .i64 1]=some (.t [.i .i64 n,.i .i64 0]):=by
 have KJ:=UQ (X:=X) y (by omega);have Gz:=UP (X:=X) y m hm;have hml:¬Ds (Gr y) m<1:=by unfold Ds;repeat' split<;>omega
 obtain⟨q,pS⟩:∃q:Nat,(q:Int)+1=m:=⟨(m - 1).toNat,by omega⟩;have cW:∀n0:Int,∃n:Int,bP (O X) [0,1,8,9] TH [(0,.i .i64 y),(1,.i .i64 m),(8,.i .i64 n0),(9,.i .i64 1)]=some (.e 0,[(8,.i .i64 n)]):=fun n0=>by
  obtain⟨r,hl,n,rfl⟩:=dW (o:=O X) (kin:=[0,1,8,9]) (c:=TH) (fun i aA=>∃n:Int,aA=[(0,.i .i64 y),(1,.i .i64 m),(8,.i .i64 n),(9,.i .i64 ((i:Int)+1))]) q (fun r=>∃n:Int,r=(.e 0,[(8,.i .i64 n)])) (fun i aA hI=>by obtain⟨n,rfl⟩:=hI;simp) (fun i aA hi hI=>by
   obtain⟨n,rfl⟩:=hI;left;have hw:IntKind.i64.wrap ((i:Int)+1+1)=(i:Int)+1+1:=bC _ (by omega);have Gz:=UP (X:=X) y ((i:Int)+1) (by omega);have c:(i:Int)+1<m:=by omega
   exact⟨[(0,.i .i64 y),(1,.i .i64 m),(8,.i .i64 (IntKind.i64.wrap (n+Ds (Gr y) ((i:Int)+1)))),(9,.i .i64 (((i+1:Nat):Int)+1))],by simp[TH,c,Gz,hw],_,rfl⟩) (fun aA hI=>by
   obtain⟨n,rfl⟩:=hI;have c:¬((q:Nat):Int)+1<m:=by omega
   exact⟨(.e 0,[(8,.i .i64 n)]),by simp[TH,c],by simp,n,rfl⟩) q 0 [(0,.i .i64 y),(1,.i .i64 m),(8,.i .i64 n0),(9,.i .i64 (((0:Nat):Int)+1))] (by omega) ⟨n0,rfl⟩
  exact⟨n,by simpa using hl⟩
 obtain⟨n,hl⟩:=cW (IntKind.i64.wrap (IntKind.i64.wrap (sJ y+1) - 1));have c1:¬y<2000:=by omega
 have c2:¬2199<y:=by omega
 have c3:¬m<1:=by omega
 have c4:¬12<m:=by omega
 exact⟨n,aI (fc:=aJ7) cT4 rfl rfl (by simp[aJ7,bA,KJ,Gz,hml,c1,c2,c3,c4,hl])⟩
def aT7 (d:Int)(hd:0<=d/\d<=73048):∃n:Int,O X 189 [.i .i64 d]=some (.i .i64 n):=by obtain⟨y,m,e,h1,y0,y1,m0,m1⟩:=cK5 (X:=X) d hd;obtain⟨n,h2⟩:=cK4 (X:=X) y m ⟨y0,y1⟩ ⟨m0,m1⟩;exact⟨n,aI (fc:=aL0) cU3 rfl rfl (by simp[aL0,h1,h2])⟩
def JG (x:bG):Prop:= -1000000000000<=x.amount/\x.amount<=1000000000000
def JJ (e:aW):Prop:=∀x∈e.legs,JG x
def dU1 (x:bG):∃n,O X 206 [x.v]=some (.i .i64 n)/\(n=0->JG x):=by
 by_cases h:JG x;obtain⟨n,hn⟩:=t66 (X:=X) x;exact⟨n,hn,fun _=>h⟩;refine⟨1,aI (fc:=HF) rfl rfl rfl ?_,by simp⟩;unfold JG at h;by_cases c1:x.account<1;simp[HF,c1];by_cases c2:x.amount=0;simp[HF,c1,c2];by_cases c3:x.amount< -1000000000000;simp[HF,c1,c2,c3];have c4:1000000000000<x.amount:=by omega
 simp[HF,c1,c2,c3,c4]
def dU2 (e:aW)(h:e.legs.length<=12):∃r,bP (O X) [1,3] GB [(1,.bx e.cells),(3,.i .i64 0)]=some r/\((∃n:Int,r=(.r,[(2,.i .i64 n)])/\n≠0)\/(r=(.e 0,[(1,.bx e.cells)])/\∀x∈e.legs,JG x)):=by
 have:=dW (o:=O X) (kin:=[1,3]) (c:=GB) (fun i aA=>aA=[(1,.bx e.cells),(3,.i .i64 (i:Int))]/\∀(k:Nat) (hk:k<e.legs.length),k<i->JG e.legs[k]) e.legs.length (fun r=>(∃n:Int,r=(.r,[(2,.i .i64 n)])/\n≠0)\/(r=(.e 0,[(1,.bx e.cells)])/\∀x∈e.legs,JG x)) (fun i aA hI=>by obtain⟨rfl,_⟩:=hI;simp) (fun i aA hi hI=>by
  obtain⟨rfl,hz⟩:=hI;have hw:=bC (i+1) (by omega);obtain⟨n,hn,hc⟩:=dU1 (X:=X) e.legs[i];by_cases h0:n=0;left;refine⟨[(1,.bx e.cells),(3,.i .i64 ((i+1:Nat):Int))],by simp[GB,hi,hw,hn,h0],rfl,fun k hk kY=> ?_⟩;by_cases e:k=i;subst e;exact hc h0;exact hz k hk (by omega);right;exact⟨(.r,[(2,.i .i64 n)]),by simp[GB,hi,hn,h0],by simp,.inl ⟨n,rfl,h0⟩⟩) (fun aA hI=>by
  obtain⟨rfl,hz⟩:=hI;refine⟨(.e 0,[(1,.bx e.cells)]),by simp[GB],by simp,.inr ⟨rfl,fun m hm=> ?_⟩⟩;obtain⟨k,hk,rfl⟩:=lH hm;exact hz k hk hk) e.legs.length 0 [(1,.bx e.cells),(3,.i .i64 ((0:Nat):Int))] (by omega) ⟨rfl,fun k _ h=>absurd h (by omega)⟩
 simpa using this
set_option maxHeartbeats 4000000 in
def dU3 (e:aW):∃n:Int,O X 175 [e.v]=some (.i .i64 n)/\(n=0->∀x∈e.legs,JG x):=by
 have:∃y,O X 175 [e.v]=some y/\IP (∀x∈e.legs,JG x) y:=by
  refine gZ (fc:=j1) rfl rfl rfl ?_;obtain⟨t1,h1,k1⟩:=YF (X:=X) e.key;obtain⟨t2,h2,k2⟩:=Uo (X:=X) e.text 64 32 (by omega);have h3:=u7 (X:=X) e.booked;have h4:=u7 (X:=X) e.value;have h5:=u7 (X:=X) e.period;generalize decide (0<=e.booked/\e.booked<=73048)=t3 at h3;generalize decide (0<=e.value/\e.value<=73048)=t4 at h4;generalize decide (0<=e.period/\e.period<=73048)=t5 at h5;cases t1 with|false=>simp[j1,h1]|true=>
  cases t2 with|false=>simp[j1,h1,h2]|true=>
  cases t3 with|false=>simp[j1,h1,h2,h3]|true=>
  cases t4 with|false=>simp[j1,h1,h2,h3,h4]|true=>
  by_cases c1:e.kind<1;simp[j1,h1,h2,h3,h4,c1];by_cases c2:14<e.kind;simp[j1,h1,h2,h3,h4,c1,c2];by_cases c3:e.auth<0;simp[j1,h1,h2,h3,h4,c1,c2,c3];by_cases c4:3<e.auth;simp[j1,h1,h2,h3,h4,c1,c2,c3,c4];by_cases c5:e.period≠0/\t5=false;obtain⟨c5,rfl⟩:=c5;simp[j1,h1,h2,h3,h4,h5,c1,c2,c3,c4,c5];by_cases c6:(e.legs.length:Int)<2;by_cases c7:e.period=0;simp[j1,h1,h2,h3,h4,c1,c2,c3,c4,c6,c7];have:t5=true:=by cases t5 with |true=>rfl|false=>exact absurd ⟨c7,rfl⟩ c5
  subst this;simp[j1,h1,h2,h3,h4,h5,c1,c2,c3,c4,c6,c7];by_cases c8:(12:Int)<(e.legs.length:Int);by_cases c7:e.period=0;simp[j1,h1,h2,h3,h4,c1,c2,c3,c4,c6,c7,c8];have:t5=true:=by cases t5 with |true=>rfl|false=>exact absurd ⟨c7,rfl⟩ c5
  subst this;simp[j1,h1,h2,h3,h4,h5,c1,c2,c3,c4,c6,c7,c8];have kF:e.legs.length<=12:=by omega
  obtain⟨r1,iX,iI⟩:=dU2 (X:=X) e kF;obtain⟨out,vH,hol,hs⟩:=t67 (X:=X) e.legs (by omega);obtain⟨r2,kX,nP⟩:=bN6 (X:=X) out (by omega);generalize aB Mo.v out=D at vH kX;rcases iI with⟨n,rfl,hn⟩|⟨rfl,EH⟩;by_cases c7:e.period=0;simp only[aW.cells,c7] at iX;simp[j1,bA,h1,h2,h3,h4,c1,c2,c3,c4,c6,c7,c8,iX,hn];have:t5=true:=by cases t5 with |true=>rfl|false=>exact absurd ⟨c7,rfl⟩ c5
  subst this;simp[j1,bA,h1,h2,h3,h4,h5,c1,c2,c3,c4,c6,c7,c8,iX,hn];rcases nP with rfl|⟨rfl,hz⟩;by_cases c7:e.period=0;simp only[aW.cells,c7] at iX;simp[j1,bA,h1,h2,h3,h4,c1,c2,c3,c4,c6,c7,c8,iX,vH,kX];have:t5=true:=by cases t5 with |true=>rfl|false=>exact absurd ⟨c7,rfl⟩ c5
  subst this;simp[j1,bA,h1,h2,h3,h4,h5,c1,c2,c3,c4,c6,c7,c8,iX,vH,kX];have FR:=yT EH;by_cases c7:e.period=0;simp only[aW.cells,c7] at iX;simp[j1,bA,h1,h2,h3,h4,c1,c2,c3,c4,c6,c7,c8,iX,vH,kX,FR];have:t5=true:=by cases t5 with |true=>rfl|false=>exact absurd ⟨c7,rfl⟩ c5
  subst this;simp[j1,bA,h1,h2,h3,h4,h5,c1,c2,c3,c4,c6,c7,c8,iX,vH,kX,FR]
 obtain⟨y,h,n,rfl,hp⟩:=this;exact⟨n,h,hp⟩
def dU7 (l:List aW)(e:aW)(h:l.length<=1000):∃n:Int,O X 135 [.l (AQ l),e.v]=some (.i .i64 n)/\(n=0->JJ e):=by
 obtain⟨n,hn,hp⟩:=dU3 (X:=X) e;have:∃y,O X 135 [.l (AQ l),e.v]=some y/\IP (JJ e) y:=by
  refine gZ (fc:=DN) rfl rfl rfl ?_;by_cases h0:n=0;subst h0;have hc:JJ e:=hp rfl;obtain⟨r,hl,hr⟩:=bN8 (X:=X) l e h;simp only[fU] at hl;rcases hr with rfl|rfl;simp[DN,hn,bA,hl];by_cases h0:0<l.length;obtain⟨p,hp⟩:∃p,p+1=l.length:=⟨l.length - 1,by omega⟩;have eF:p<l.length:=by omega
  have cU:IntKind.i64.wrap ((l.length:Int) - 1)=(p:Int):=by rw[bC _ (by omega)];omega
  have h4:¬(4096:Int)<=(l.length:Int):=by omega
  by_cases hb:e.booked<l[p].booked;simp[DN,hn,bA,hl,h0,cU,eF,hb];simp[DN,hn,bA,hl,h0,cU,eF,hb,h4,hc];have h4:¬(4096:Int)<=(l.length:Int):=by omega
  simp[DN,hn,bA,hl,h0,h4,hc];simp[DN,hn,h0]
 obtain⟨y,h,n,rfl,hq⟩:=this;exact⟨n,h,hq⟩
set_option maxHeartbeats 4000000 in
def m84 (l:List aW)(h:l.length<=1000):∃n:Int,O X 84 [.l (AQ l)]=some (.i .i64 n)/\(n= -1->∀(i:Nat) (hi:i<l.length),JJ l[i]):=by
 have hx:=dW (o:=O X) (kin:=[0,3]) (c:=Fx) (fun i aA=>aA=[(0,.l (AQ l)),(3,.i .i64 (i:Int))]/\∀(k:Nat) (hk:k<l.length),k<i->JJ l[k]) l.length (fun r=>(∃n:Nat,r=(.r,[(2,.i .i64 (n:Int))]))\/(r=(.e 0,[])/\∀(k:Nat) (hk:k<l.length),JJ l[k])) (fun i aA hI=>by obtain⟨rfl,_⟩:=hI;simp) (fun i aA hi hI=>by
  obtain⟨rfl,hz⟩:=hI;have hw:=bC (i+1) (by omega);have hs:=Uv aW.v 10 (fun _=>rfl) (O X) l i (by omega);have kW:(l.take i).length=i:=by rw[gO];omega
  obtain⟨n,hn,hc⟩:=dU7 (X:=X) (l.take i) l[i] (by omega);by_cases h0:n=0;subst h0;have hch:=hc rfl;obtain⟨n',kC,wS⟩:=aZ2 (X:=X) (l.take i) l[i] (by omega);have hck:Kw l[i]:=wS (by rw[hn] at kC;simpa using kC.symm);obtain⟨a,ha,hid,hal⟩:=aZ0 (X:=X) (l.take i) l[i] (by omega) hck.1 hck.2.2;rw[kW] at hid;obtain⟨t,ht,Cf⟩:=aZ1 (X:=X) a l[i] (by omega);cases t with|false=>right;exact⟨(.r,[(2,.i .i64 (i:Int))]),by simp[Fx,hi,hs,hn,ha,ht],by simp,.inl ⟨i,rfl⟩⟩|true=>left;refine⟨[(0,.l (AQ l)),(3,.i .i64 ((i+1:Nat):Int))],by simp[Fx,hi,hs,hn,ha,ht,hw],rfl,fun k hk kY=> ?_⟩;by_cases e:k=i;subst e;exact hch;exact hz k hk (by omega)
  right;exact⟨(.r,[(2,.i .i64 (i:Int))]),by simp[Fx,hi,hs,hn,h0],by simp,.inl ⟨i,rfl⟩⟩) (fun aA hI=>by
  obtain⟨rfl,hz⟩:=hI;exact⟨(.e 0,[]),by simp[Fx],by simp,.inr ⟨rfl,fun k hk=>hz k hk hk⟩⟩) l.length 0 [(0,.l (AQ l)),(3,.i .i64 ((0:Nat):Int))] (by omega) ⟨rfl,fun k _ h=>absurd h (by omega)⟩
 obtain⟨r,hx,hr⟩:=hx;simp only[fU] at hx;rcases hr with⟨n,rfl⟩|⟨rfl,hz⟩;exact⟨n,aI (fc:=If) rfl rfl rfl (by simp[If,bA,hx]),fun e=>by omega⟩;exact⟨-1,aI (fc:=If) rfl rfl rfl (by simp[If,bA,hx]),fun _=>hz⟩
set_option maxHeartbeats 4000000 in
def m41 (b:cD)(h:qU b)(Oz:∀e∈b.journal,e.legs.length<=1000):∃n:Int,O X 41 [b.v]=some (.i .i64 n)/\(n=0->∀(i:Nat) (hi:i<b.journal.length),JJ b.journal[i]):=by
 obtain⟨m,hm,hmv⟩:=m84 (X:=X) b.journal h.jour;by_cases hm1:m= -1;subst hm1;have hv:=hmv rfl;have hl:=dW (o:=O X) (kin:=[1,3]) (c:=Iv) (fun i aA=>aA=[(1,.bx b.cells),(3,.i .i64 (i:Int))]/\∀(k:Nat) (hk:k<b.journal.length),k<i->∀x∈b.journal[k].legs,ET b x.account) b.journal.length (fun r=>r=(.r,[(2,.i .i64 25)])\/(r=(.e 0,[])/\∀(k:Nat) (hk:k<b.journal.length),∀x∈b.journal[k].legs,ET b x.account)) (fun i aA hI=>by obtain⟨rfl,_⟩:=hI;simp) (fun i aA hi hI=>by
  obtain⟨rfl,hz⟩:=hI;have hj:=h.jour;have hw:=bC (i+1) (by omega);obtain⟨n,hn,hk⟩:=t85 (X:=X) b b.journal[i] h (Oz _ (gN hi));by_cases h0:n=0;subst h0;left;refine⟨[(1,.bx b.cells),(3,.i .i64 ((i+1:Nat):Int))],by simp[Iv,hi,hw,hn],rfl,fun k iY kY=> ?_⟩;by_cases e:k=i;subst e;exact hk rfl;exact hz k iY (by omega);right;exact⟨(.r,[(2,.i .i64 25)]),by simp[Iv,hi,hn,h0],by simp,.inl rfl⟩) (fun aA hI=>by
  obtain⟨rfl,hz⟩:=hI;exact⟨(.e 0,[]),by simp[Iv],by simp,.inr ⟨rfl,fun k hk=>hz k hk hk⟩⟩) b.journal.length 0 [(1,.bx b.cells),(3,.i .i64 ((0:Nat):Int))] (by omega) ⟨rfl,fun k _ h=>absurd h (by omega)⟩
 obtain⟨r,hl,hr⟩:=hl;simp only[fU] at hl;rcases hr with rfl|⟨rfl,hk⟩;exact⟨25,aI (fc:=DH) rfl rfl rfl (by simp[DH,hm,bA,hl]),by simp⟩;exact⟨0,aI (fc:=DH) rfl rfl rfl (by simp[DH,hm,bA,hl]),fun _ i hi=>hv i hi⟩;exact⟨25,aI (fc:=DH) rfl rfl rfl (by simp[DH,hm,hm1]),by simp⟩
end Go.Proofs.YtdlpbedneamebaaGreatDoor
