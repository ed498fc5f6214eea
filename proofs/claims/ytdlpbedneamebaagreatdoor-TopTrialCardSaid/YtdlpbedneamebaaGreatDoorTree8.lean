/-
A part of the proof of the last text.
-/
import Derived.Test.YtdlpbedneamebaaGreatDoorTW
import Derived.Test.YtdlpbedneamebaaGreatDoorTN
set_option linter.all false
namespace Go.Proofs.YtdlpbedneamebaaGreatDoor
open Go.VM
variable {X:aU}
def O9 {ys:List V}(h:pH 102 ys):pH 65 ys:=PL (by omega) h
def bY7 (q:Option gR):∃(c:gR) (t:Bool),cV q= .t [c.v,.b t]:=by cases q with|none=>exact⟨c0,false,rfl⟩|some c=>exact⟨c,true,rfl⟩
def OV:C:=dV 11 (xU (zY .eql 4 1 3 [] [] [Ac]) (zY .eql 4 1 3 [] [] [rU 3]) (zY .eql 4 1 3 [] [] [rU 6]) (zY .eql 4 1 3 [] [] [rU 12])) []
def lZ:aQ:=⟨3,[.tmp 6],oK (Hj 3 [B7]) (vZ [(21,qG (B0 128 (Eb 0 1 3 [] []) []))] 21 (kK [(6,rU 4)] 6 [])) (kL (eQ 23 1 (gS 24 1) [bX 25 24,l7 26 129 23 25 [],bN 22 26,fJ 27 22,fK 28 22,oZ 7 [aL],lI 7 27,xR 28] [23,24,25,26,22,27,28,7]) (dV 30 (rB G6 8 []) []) (G4 30 (kK [(6,rU 14)] 6 []))) (kL (eQ 32 2 (gS 33 2) [bX 34 33,l8 35 130 32 G0 [],bN 31 35,fJ 36 31,fK 37 31,oZ 9 [cQ,cQ],eV 3 9 36,Da 37] [32,33,34,35,31,36,37,9]) (dV 39 (rB G6 10 []) []) (G4 39 (kK [(6,rU 11)] 6 []))) (oK OV (vZ [(85,xU (wB (qG (B0 81 (Eb 3 1 3 [] []) [])) (rB G6 11 []) (zY .lss 5 1 3 [] [] [qL])) (zY .gtr 5 1 3 [] [] [rU 1000000000000]) (zY .lss 6 1 3 [] [] [qL]) (zY .gtr 6 1 3 [] [] [rU 1000000]))] 85 (kK [(6,Ac)] 6 [])) (kL (dV 12 (B0 131 (dY (LV 5) (rB (.fa 7 5) 3 []) []) []) []) (dV 90 (Ae .neq 12 [qL]) []) (G4 90 (kK [(6,.sl 12)] 6 []))) (kL (dV 13 (B0 131 (dY (LV 5) (rB (.fa 12 5) 3 []) []) []) []) (dV 96 (Ae .neq 13 [qL]) []) (G4 96 (kK [(6,.sl 13)] 6 []))) (iO (vZ [(107,gH (J9 .gtr (sO (Eb 17 1 3 [] [])) [rU 4]) (J9 .gtr (sO (Eb 18 1 3 [] [])) [rU 4]))] 107 (kK [(6,rU 5)] 6 [])) (CS [(14,qL)] [3,14] HL) (xX [(16,qL)] (G7 2 [3,16] Fy)) (dV 6 qL []) 6 []))⟩
def bE6 (p:dO)(u v w:V):∃t:Bool,bI (O X) OV [(0,u),(1,v),(2,w),(3,.bx p.cells),(6,.i .i64 0),(8,.b true),(10,.b true),(21,.b false),(30,.b false),(39,.b false)]=some (.n,[(0,u),(1,v),(2,w),(3,.bx p.cells),(6,.i .i64 0),(8,.b true),(10,.b true),(11,.b t),(21,.b false),(30,.b false),(39,.b false)]):=by by_cases e1:p.every=1;exact⟨true,by simp[OV,e1]⟩;by_cases e2:p.every=3;exact⟨true,by simp[OV,e2]⟩;by_cases e3:p.every=6;exact⟨true,by simp[OV,e3]⟩;exact⟨decide (p.every=12),by simp[OV,e1,e2,e3]⟩
end Go.Proofs.YtdlpbedneamebaaGreatDoor
