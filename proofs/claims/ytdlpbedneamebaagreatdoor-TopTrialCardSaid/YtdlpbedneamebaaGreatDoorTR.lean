/-
Plain laws and walks: part of the proof of the last text.
-/
import Derived.Test.YtdlpbedneamebaaGreatDoorCode
import Derived.Test.YtdlpbedneamebaaGreatDoorIns2
import Derived.Test.YtdlpbedneamebaaGreatDoorVI
set_option linter.all false
namespace Go.Proofs.YtdlpbedneamebaaGreatDoor
open Go.VM
def Iu:C:=Ai (Bd 47 8 (tO 8 10 bV 5) [] 47 2 [1,2,5,6]) 3 (jO (xQ 9 (tO 0 3 (tO 8 10 bV 5) 8)) 90 (gT (rT (mA (tO 4 10 bV 5) bD) (tR (Nv 12 19 6 [m6]) (Nv 12 19 2 [m6])) (xY .geq 9 1000)) (qG (pB 13 (rA 22 6) [m6,tO 1 10 bV 5]))) 90 4 iV 4 []) 8 8
def K9:C:=rN 26 5 bV [] 26 [2] (.seq (.d [lT 30 22 2 [],iT 31,bN 32 5,j8 33 10 31 32,kI 34 10 L0 [],l8 35 11 30 G0 [],bN 29 35,fJ 36 29,fK 37 29,Dk 6 cQ [cQ,cQ,aL,aL,aL,aL,aL,aL,aL,aL,aL,aL,aL,aL,aL,aL,cQ,cQ,cQ,cQ,cQ],eV 22 6 36,zV 37] [[],[],[],[1,2],[1,2,3],[0,1,2,3,4],[0,1,2,3,4,5],[0,1,2,3,4,5,6],[0,1,2,3,4,5,6],[],[0,1,2,3,4,5,6,7,9],[0,1,2,3,4,5,6,7,8,9,10]] [30,31,32,33,34,35,29,36,37]) (kL (iW 39 (qY 7) 39 (.exit 1 [1,2,5])) (Eg 8 2 [1,2,5,6,8] Iu) (lV 91 22 [GW] [eV 22 2 91] [91]))) 5 5
def P4:C:=Ai (Bd 104 13 v8 [] 104 6 [10,11,12]) 7 (iW 117 (mA (tO 2 3 v8 13) (tO 2 3 v8 11)) 117 (iZ 12 12 (tO 1 3 v8 13))) 13 13
def Sz:C:=Ai (Bd 98 11 v8 [] 98 4 []) 5 (vY 12 (jO (Eg 13 6 [10,11,12,13] P4) 126 UV 126 4 iV 4 [])) 11 11
def Mc:aQ:=⟨2,[.tmp 4],oK (oY [Nn]) (nZ 21 (gH (iS 5 L9) (pA bV [] 20)) 21 4 (xK 10 []) 4 []) (iE 5 [1,2,5] K9) (mZ 92 19 2 [bX 93 92,nK 94 14 93 [],Da 94] [92,93,94]) (nJ (Eg 11 4 [10,11] Sz) (xK 10 []))⟩
def eU0:oU Tryz.prog Tryz.f4=some Mc:=by kernel_rfl
def dN8:jG Tryz.prog 4=true:=by kernel_rfl
def aM8:aQ:=⟨3,[.tmp 6],gK Dc [Hq 6] (tP (rQ 7 0 30 [J5,bV,fB] [] [(8,oX 30 [J5,bV,fB] [])]) 6 (gT (iP 8 0) (He (mY 12 (uW 19) [bV]) v6)) 6)⟩
def cV4:bJ 13=some aM8:=by kernel_rfl
def DU:C:=j7 69 68 67 (jC 69 1 [1] 2 (wC [j8 70 3 66 68,lT 71 3 70 [],fI 4 [bO],eV 3 4 71] [70,71] (jO (qH 89 (xU (A9 0 4) (E2 1 4) (qZ 1 4 Xq) (pP 1 4 Hp)) 89 dM []) 93 (iS 55 (kU 2 4)) 93 2 La 2 [])) 68 68)
def P7:C:=j7 100 99 98 (jC 100 3 [] 4 (jO (BW 101 2 97 99 [lT 102 2 101 [],oZ 6 [aL],vV 102] [101,102]) 105 (Aa 1 6 bD) 105 2 (xN 15) 2 []) 99 99)
def AV:aQ:=⟨1,[.tmp 2],gK Hg [xW] (jW (.blk 0 (tU 7 (iS 52 (sS 6)) 7 (lW 2 B8 2 []) (tU 12 (xU (CT 53 (sS 7) [G5 32,UZ]) (iS 54 z6) (iS 54 Ed) (iS 54 Nq)) 12 (lW 2 dM 2 []) (tU 35 (xU (A9 3 1) (pP 3 1 La) (qZ 4 1 bD) (pP 4 1 z7)) 35 (lW 2 dM 2 []) (fP 54 (gH (tR (sO LX) CW) (pA LX [] 12)) 54 2 5 2 []))))) (lB [iU 65 8 1,bX 66 65,k7 67 [.t 66],mN 68] [65] 1 [1,66,67,68] DU) (lB [iU 95 8 1,bX 96 95,nK 97 56 96 [],k7 98 [.t 97],mN 99] [95,96] 3 [97,98,99] P7) 2 bD 2 [])⟩
def cS4:bJ 24=some AV:=by kernel_rfl
def Ip:aQ:=⟨2,[.cell 4 10 true,.tmp 5],iO (Qc 3 1 [fI 4 [aL,aL,aL,aL,bO,bO,cQ,jD],y4] []) (eQ 7 0 (.mkf 8 (.func 58) 0 [pO]) [Ef 9 57 tQ [E9],zX 9] [7,8,9]) (pN 11 (pQ 6 0) 11 [mL 12 [aL,aL,aL,aL,aL,bO,bO,cQ,jD] [] [],eV 10 4 12,y4] [12] 4 [5]) (vW 13 0 14 6 [j8 15 10 13 14,lT 16 10 15 [],eV 10 4 16,JZ] [13,14,15,16]) 4 [5]⟩
def Uk:bJ 25=some Ip:=by kernel_rfl
def Kb:C:=j7 12 11 10 (jC 12 0 [] 1 (m7 (BW 13 3 9 11 [kI 14 3 J4 [],fI 6 [bO],eV 3 6 14] [13,14]) 7 bD (jO (tU 17 (qZ 0 6 J8) 17 (oJ 7 59 [L9,rA 3 6]) (oJ 7 60 [L9,rA 3 6,Ea])) 27 (qY 7) 27 4 v6 4 [])) 11 11)
def SZ:aQ:=⟨2,[.tmp 4],gK GX [vX,sR] (nJ (lB [gS 8 8,bX 9 8,k7 10 [Nl],mN 11] [8] 0 [2,3,9,10,11] Kb) bD)⟩
def aX0:bJ 26=some SZ:=by kernel_rfl
def DT:C:=j7 18 17 16 (jC 18 0 [] 1 (wC [j8 19 3 15 17,lT 20 3 19 [],fI 6 [bO],eV 3 6 20] [19,20] (kL (iW 23 (qZ 0 6 J8) 23 (.exit 1 [2,3,15,16,17])) (lV 25 22 [.t 2] [iU 26 0 6,bX 27 26,l8 28 62 25 Hl [],bN 24 28,fJ 29 24,fK 30 24,fI 7 [aL,aL,bO,bO,bO],eV 7 7 29,xR 30] [25,26,27,28,24,29,30,7]) (.blk 2 (tU 31 Hf 31 (lW 4 Q2 4 []) (tU 34 (CT 63 L9 [kU 0 6,Ea]) 34 (lW 4 (xN 16) 4 []) (tU 42 (mY 64 (Df 21) [kU 0 6,Ea,kU 1 6]) 42 (lW 4 (xN 19) 4 []) (iW 52 (pP 1 6 bD) 52 (jO (oJ 9 65 [L9,kU 0 6,Ea,kU 1 6]) 65 (qY 9) 65 4 m6 4 [])))))))) 17 17)
def Mi:aQ:=⟨2,[.tmp 4],jW (oY [vX,sR]) (nZ 12 (Aa 4 3 bD) 12 4 bD 4 []) (lB [gS 13 8,bX 14 13,nK 15 61 14 [],k7 16 [.t 15],mN 17] [13,14] 0 [2,3,15,16,17] DT) 4 bD 4 []⟩
def X':bJ 27=some Mi:=by kernel_rfl
def Fl:aQ:=⟨2,[.tmp 4,.tmp 5],CU (Qc 3 1 [tT 4 59 [],xV] []) (rV (oJ 6 24 [xM 10 dH]) 15 QR 15 (wA [bN 16 6,tT 4 59 [],zW 16] [16] 4 [5])) (rV (eQ 18 0 (gS 19 6) [bX 20 19,l7 21 25 18 20 [],bN 17 21,fJ 22 17,fK 23 17,fI 7 [aL,aL,aL,aL,bO,bO,cQ,jD],eV 10 7 22,xR 23] [18,19,20,21,17,22,23,7]) 24 l9 24 (wA [tT 4 59 [],Ab 5 12] [] 4 [5])) (rQ 9 0 66 [cI] [] [(10,oX 66 [cI] [])]) (pN 38 (gT (Hs oH bD) (qZ 1 3 v8)) 38 [tT 4 59 [],Ab 5 10] [] 4 [5]) (pN 41 (He oH (xN 4096)) 41 [tT 4 59 [],Ab 5 5] [] 4 [5]) (iO (eQ 42 0 (k7 43 [.t 42]) [.q 44 Ah [.t 43,yZ],.mks 45 59 112 (.a [aL,aL,aL,aL,aL,aL,bO,bO,cQ,jD]) QS,eR 11 45] [42,43,44,45]) (eQ 46 11 (mX 47) [.cpy (some 48) 59 10 LZ (.t 47)] [46,47,48]) (eQ 49 11 (mX 50) [k7 51 [.t 50],kI 52 10 pO [],mX 53,k7 54 [.t 53],bN 55 9,l7 56 67 52 54 [.t 55],j8 57 10 49 51,eV 10 57 56] [49,50,51,52,53,54,55,56,57]) (eQ 58 11 (eR 4 58) [xV] [58]) 4 [5])⟩
def Qi:bJ 28=some Fl:=by kernel_rfl
def Ij:aQ:=⟨3,[.tmp 6,.tmp 7],gK Dc [B7,GZ] (iO (lV 13 22 [pO] [iT 14,l7 15 62 13 14 [],bN 12 15,fJ 16 12,fK 17 12,fI 8 [aL,aL,bO,bO,bO],eV 7 8 16,eR 9 17] [13,14,15,12,16,17]) (lV 19 22 [pO] [iT 20,qI 21,l7 22 69 19 20 [.t 21],bN 18 22,fJ 23 18,fK 24 18,oZ 10 [bO,bO,aL,aL,aL,aL,cQ,gI,aL,aL,gI,cQ,gI,aL,aL,gI,cQ,cQ],D9 10 23,eR 11 24] [19,20,21,22,18,23,24]) (jB 30 (gH (qG m6) (qG J7)) 30 [(6,bD),(7,Q2)] 6 [7]) (dV 6 (dY Nt (y7 .add 5 10 (kU 3 8)) []) [(7,bD)]) 6 [7])⟩
def Uh:bJ 30=some Ij:=by kernel_rfl
def P6:C:=j7 9 8 7 (jC 9 0 [3] 1 (jO (xQ 5 (xJ nY 8)) 14 (JV 5 dH) 14 2 m5 2 []) 8 8)
def Me:aQ:=⟨1,[.tmp 2],sQ 2 bD 3 bD (kJ (lB [mX 6,k7 7 [GW],mN 8] [] 0 [3,6,7,8] P6) dH)⟩
def dO1:jG Tryz.prog 33=true:=by kernel_rfl
def PY:aQ:=⟨2,[.tmp 4],sQ 4 bD 5 (tN 72 []) (oK (oJ 6 72 [bV]) (iW 11 m5 11 (H6 (nZ 12 nY 12 4 bD 4 []))) (nZ 13 nY 13 4 dM 4 []) (fP 16 (Ei 0 bV) 16 4 (-1) 4 []) (nJ (nZ 19 (jE .gtr 0 bV) 19 4 dM 4 []) bD))⟩
def dO0:jG Tryz.prog 34=true:=by kernel_rfl
def Md:aQ:=⟨2,[.tmp 4],sQ 4 bD 5 (tN 73 []) (oK (oJ 6 73 [bV]) (iW 11 m5 11 (H6 (nZ 12 nY 12 4 bD 4 []))) (nZ 13 nY 13 4 dM 4 []) (fP 16 (Ei 0 bV) 16 4 (-1) 4 []) (nJ (nZ 19 (jE .gtr 0 bV) 19 4 dM 4 []) bD))⟩
def dN9:jG Tryz.prog 35=true:=by kernel_rfl
def aW4:bJ 35=some Md:=by kernel_rfl
def SR:aQ:=⟨1,[.tmp 2],BY uU (JV 0 uY) (tN 53 [G5 33,xN 48])⟩
def aW3:bJ 52=some SR:=by kernel_rfl
def Mz:C:=j7 11 10 9 (jC 11 0 [0,2] 1 (jO (xQ 7 v8) 23 (Lc (tR (Eh [v6]) bV) [v6] 126) 23 6 iV 6 []) 10 10)
def SQ:aQ:=⟨3,[.tmp 6],j9 6 iV (tP (CS [(9,qJ),(10,bD)] [0,1,2,9,10] Mz) 6 (GV qJ fB) 6)⟩
def aW2:bJ 53=some SQ:=by kernel_rfl
def aG9:aQ:=⟨1,[.tmp 2],BY uU (J0 0) Xo⟩
def cQ8:bJ 54=some aG9:=by kernel_rfl
def My:C:=j7 7 6 5 (jC 7 0 [0] 1 (jO (xQ 3 nY) 18 (CR [dH] 65 [dH] 90) 18 2 iV 2 []) 6 6)
def SP:aQ:=⟨1,[.tmp 2],j9 2 iV (kJ (CS [(5,qJ),(6,bD)] [0,5,6] My) (mA qJ z7))⟩
def aW1:bJ 55=some SP:=by kernel_rfl
def Mx:C:=j7 11 10 9 (jC 11 0 [3] 1 (wC [j8 12 3 8 10,kI 13 3 Dg [],fI 5 [bO],eV 3 5 13] [12,13] (kL (rQ 6 0 95 [dH,kU 2 5,.k (.f (.func 96) [] [])] [] [(7,oX 95 [dH,kU 2 5,.k (.f (.func 96) [] [])] [])]) (iW 22 (qG v6) 22 (vW 23 3 24 6 [iU 25 2 5,bX 26 25,nX 27 bO [aL] [(0,1)] [J3],.bsl 28 122 2 [Hl],.callm (some 29) 97 (Bk 97) QW [L4,L6],A8 29] [23,24,25,26,27,28,29])) (.d [bN 30 3,bN 31 6,j8 32 2 30 31,rO 33 32,bX 34 33,rO 35 5,bX 36 35,.q 37 Ah [G0,L3],j8 38 2 30 31,rO 39 38,eV 1 39 37] [[],[],[0,1],[0,1,2],[0,1,2,3],[],[5],[0,1,2,3,4,5,6],[0,1,2,3,4,5,6,7],[0,1,2,3,4,5,6,7,8],[0,1,2,3,4,5,6,7,8,9]] [30,31,32,33,34,35,36,37,38,39]))) 10 10)
def aG8:aQ:=⟨1,[.tmp 2],iO (rR 2 122 [] [] []) (rR 3 122 [] [] []) (lB [mX 8,k7 9 [E9],mN 10] [] 0 [3,8,9,10] Mx) (eQ 41 3 (eR 2 41) [] [41]) 2 []⟩
def cQ7:bJ 56=some aG8:=by kernel_rfl
def Sy:C:=j7 9 8 7 (jC 9 0 [] 1 (jO (xQ 5 l9) 16 (dY Ho bV [xT 10 10 5]) 16 4 m5 4 []) 8 8)
def SO:aQ:=⟨2,[.tmp 4],vY 4 (H6 (CS [(7,oH),(8,bD)] [0,1,7,8] Sy))⟩
def aW0:bJ 57=some SO:=by kernel_rfl
def aG7:aQ:=⟨2,[.tmp 3],tP (oY [Hh]) 3 (mO 6 2 Q0) 3⟩
def cQ6:bJ 58=some aG7:=by kernel_rfl
def aG6:aQ:=⟨2,[.tmp 4],jW (oY [vX,sR]) (kL (mZ 10 2 2 [bX 11 10,gS 12 0,bX 13 12,Ef 14 90 Bb [J4],bN 9 14,fJ 15 9,fK 16 9,fI 5 [aL,bO],xO 5 15,zX 16] [10,11,12,13,14,9,15,16,5]) (.g [.s (bN 17 6),.s (.q 18 G6 [L5]),.s (bN 19 18),Qa 19 false 20 (iU 20 2 2),Qa 19 false 21 (bX 21 20),Qa 19 false 22 (.mkf 22 (.func 99) 0 [pO]),Qa 19 false 23 (l8 23 98 21 B9 []),.pick 24 19 (.c Uc) QW] [17,18,19,20,21,22,23]) (U9 24 (lW 4 Q2 4 []))) (jO (mZ 26 0 2 [bX 27 26,gS 28 2,bX 29 28,l7 30 21 27 29 [],bN 25 30,fJ 31 25,fK 32 25,oZ 7 [aL],lI 7 31,xR 32] [26,27,28,29,30,25,31,32,7]) 34 Hf 34 4 La 4 []) 4 bD 4 []⟩
def cQ5:bJ 59=some aG6:=by kernel_rfl
def Ma:aQ:=⟨3,[.tmp 6],gK Dc [Ns 4,B7] (oK (lV 14 22 [pO] [iU 15 0 4,bX 16 15,l8 17 62 14 G1 [],bN 13 17,fJ 18 13,fK 19 13,fI 7 [aL,aL,bO,bO,bO],eV 7 7 18,xR 19] [14,15,16,17,13,18,19]) (fP 21 Hf 21 6 11 6 []) (jO (mZ 23 0 3 [bX 24 23,iU 25 2 4,bX 26 25,l8 27 21 24 J3 [],bN 22 27,fJ 28 22,fK 29 22,oZ 9 [aL],lI 9 28,Da 29] [23,24,25,26,27,22,28,29,9]) 31 UT 31 6 La 6 []) (jO (rQ 11 0 100 [J5,rA 7 7] [] [(12,oX 100 [J5,rA 7 7] [])]) 45 (gH QZ (JV 11 (kU 2 4))) 45 6 La 6 []) (tP (fP 51 (CT 63 J5 [kU 0 4,fB]) 51 6 16 6 []) 6 bD 6))⟩
def cQ4:bJ 60=some Ma:=by kernel_rfl
def aG5:aQ:=⟨1,[.tmp 2],gK (tT 2 61 []) [] (jX (eQ 4 0 (.callm (some 5) 101 (Bk 101) (.c cQ) [Nk]) [A8 5] [4,5]) (eQ 6 3 (.callm (some 7) 102 (Bk 102) GW [.c (.f (.func 103) [] [])]) [eR 2 7] [6,7]) 2 [])⟩
def cQ3:bJ 61=some aG5:=by kernel_rfl
def PW:aQ:=⟨3,[.tmp 6],gK Dc [Hq 6] (tP (lV 10 22 [pO] [iT 11,Ef 12 62 Ag [Bb],bN 9 12,fJ 13 9,fK 14 9,fI 7 [aL,aL,bO,bO,bO],eV 7 7 13,xR 14] [10,11,12,9,13,14]) 6 (rT l9 (BX 1 7 fB) (gH (E2 2 7) (pP 2 7 fB))) 6)⟩
def cQ2:bJ 63=some PW:=by kernel_rfl
def aG4:aQ:=⟨4,[.tmp 8],jX (Qc 7 3 [Hq 8] []) (eQ 9 0 (iT 10) [qI 11,l8 12 106 9 Ag [Bb],.mkf 13 (.func 107) 0 [tQ],l8 14 105 12 J4 [],xR 14] [9,10,11,12,13,14]) 8 []⟩
def cQ1:bJ 64=some aG4:=by kernel_rfl
def M9:aQ:=⟨4,[.tmp 8],gK (Lb 4) [y5 8] (Le (rQ 9 0 109 [rA 22 4,bV,fB] [] [(10,oX 109 [rA 22 4,bV,fB] [])]) 0 (tU 20 UU 20 (lW 8 v8 8 []) (fP 24 (jE .gtr 3 m6) 24 8 18 8 [])) (tP (lV 29 22 [Nk] [iT 30,qI 31,l7 32 69 29 30 [.t 31],bN 28 32,fJ 33 28,fK 34 28,oZ 11 [bO,bO,aL,aL,aL,aL,cQ,gI,aL,aL,gI,cQ,gI,aL,aL,gI,cQ,cQ],D9 11 33,eR 12 34] [29,30,31,32,28,33,34,12]) 8 (mY 110 (rA 22 4) [rA 19 11,bV,fB,dH]) 8))⟩
def Xy:bJ 65=some M9:=by kernel_rfl
def SN:aQ:=⟨1,[.tmp 2,.tmp 3],xX [(2,uV),(3,bD)] (jX (jB 6 (mA oH bD) 6 [(2,uV),(3,Hn)] 2 [3]) (dV 2 (uT 1 9 1 10 cI (uX oH dM)) [(3,uT 1 1 1 10 cI (uX oH dM))]) 2 [3])⟩
def aV9:bJ 66=some SN:=by kernel_rfl
def aG3:aQ:=⟨3,[.cell 6 10 true],gK Dc [fI 6 [aL,aL,aL,aL,bO,bO,cQ,jD]] (iO (eQ 7 1 (.q 8 Ah [tQ,yZ]) [gS 9 0,eV 1 9 8] [7,8,9]) (mZ 10 8 3 [bX 11 10,Ef 12 111 Bb [],gS 13 8,eV 1 13 12] [10,11,12,13]) (eQ 14 2 (kI 15 10 pO []) [nK 16 113 15 [],l8 17 112 14 G1 [],gS 18 9,eV 1 18 17] [14,15,16,17,18]) (lV 19 10 [pO] [eV 10 6 19] [19]) 6 [])⟩
def cQ0:bJ 67=some aG3:=by kernel_rfl
def DD:aQ:=⟨3,[.cell 6 19 true,.tmp 7],iO (Hj 3 [oZ 6 [bO,bO,aL,aL,aL,aL,cQ,gI,aL,aL,gI,cQ,gI,aL,aL,gI,cQ,cQ],LU]) (lV 11 22 [pO] [iT 12,Ef 13 62 Bb [Dg],bN 10 13,fJ 14 10,fK 15 10,fI 8 [aL,aL,bO,bO,bO],eV 7 8 14,eR 9 15] [11,12,13,10,14,15]) (pN 17 (qG m6) 17 [nX 18 bO [bO,bO,aL,aL,aL,aL,cQ,gI,aL,aL,gI,cQ,gI,aL,aL,gI,cQ,cQ] [] [],D9 6 18,LU] [18] 6 [7]) (mZ 19 17 3 [bX 20 19,iU 21 5 8,bX 22 21,qI 23,l8 24 114 20 B9 [QW],fJ 25 24,fK 26 24,D9 6 25,zV 26] [19,20,21,22,23,24,25,26]) 6 [7]⟩
def OA:bJ 69=some DD:=by kernel_rfl
def PV:aQ:=⟨1,[.tmp 2],kJ uU (JV 0 cI)⟩
def dN7:jG Tryz.prog 72=true:=by kernel_rfl
def PU:aQ:=⟨1,[.tmp 2],kJ uU (JV 0 cI)⟩
def dN6:jG Tryz.prog 73=true:=by kernel_rfl
def aV8:bJ 73=some PU:=by kernel_rfl
def Mw:C:=G2 (CZ 17 9 v8 17 0 [0,1,2,8,9]) 1 (sQ 11 (dY Di (xB .shr (dY z8 (Dh 9 v8) []) (Bf 1)) []) 31 (tR (dY Ho fB [xT 2 2 11,bV]) bD) (Ek 31 (C0 9 11 1) (xQ 10 J7)))
def SG:aQ:=⟨3,[.tmp 6,.tmp 7],xX [(6,bD),(7,iV)] (iO (xQ 8 oH) (dV 9 bD [(10,l9)]) (GS [0,1,2,8,9,10] Mw) (dV 6 m6 [(7,JW (U7 9 8) (dY Ho fB [xT 2 2 9,bV]) bD)]) 6 [7])⟩
def aV7:bJ 95=some SG:=by kernel_rfl
def aF8:aQ:=⟨2,[.tmp 4],nJ (oY [sR]) (mY 35 Hi [bV])⟩
def cP8:bJ 96=some aF8:=by kernel_rfl
def aF7:aQ:=⟨2,[.tmp 4],nJ LW (He (tN 147 [bV]) bD)⟩
def cP7:bJ 98=some aF7:=by kernel_rfl
def aF6:aQ:=⟨2,[.tmp 3],tP (oY [Hh]) 3 (mO 1 2 Ad) 3⟩
def cP6:bJ 99=some aF6:=by kernel_rfl
def aN9:aQ:=⟨2,[.tmp 4,.tmp 5],gK GX [vX,C1 4 bO,y4] (jX (mZ 9 17 2 [bX 10 9,gS 11 5,bX 12 11,gS 13 1,bX 14 13,Ef 15 114 Ag [Dg,.t 14],bN 8 15,fJ 16 8,fK 17 8,oZ 6 [bO,bO,aL,aL,aL,aL,cQ,gI,aL,aL,gI,cQ,gI,aL,aL,gI,cQ,cQ],D9 6 16,zV 17] [9,10,11,12,13,14,15,8,16,17]) (dV 4 (kU 1 6) [(5,v6)]) 4 [5])⟩
def cW0:bJ 100=some aN9:=by kernel_rfl
def NI:C:=j7 12 11 10 (jC 12 0 [0] 1 (wC [j8 13 3 9 11,kI 14 3 J4 [],fI 6 [bO],eV 3 6 14] [13,14] (m7 (rQ 7 0 148 [cI,rA 3 6,.k (.f (.func 149) [] [])] [] [(8,oX 148 [cI,rA 3 6,.k (.f (.func 149) [] [])] [])]) 21 l9 (Ek 21 (.d [mX 22,bN 23 7,j8 24 3 22 23,rO 25 24,bX 26 25,rO 27 6,bX 28 27,.q 29 Ah [J3,L6],j8 30 3 22 23,rO 31 30,eV 1 31 29] [[],[],[0,1],[0,1,2],[0,1,2,3],[],[5],[0,1,2,3,4,5,6],[0,1,2,3,4,5,6,7],[0,1,2,3,4,5,6,7,8],[0,1,2,3,4,5,6,7,8,9]] [22,23,24,25,26,27,28,29,30,31]) (vW 32 0 33 7 [kI 34 3 GW [],.bsl 35 61 3 [G0],.callm (some 36) 150 (Bk 150) (.t 32) [L0,QV],eR 0 36] [32,33,34,35,36])))) 11 11)
def BG:aQ:=⟨2,[.tmp 4],gK (tT 4 61 []) [] (jX (lB [iT 9,k7 10 [Nl],mN 11] [] 0 [0,9,10,11] NI) (eQ 38 0 (eR 4 38) [] [38]) 4 [])⟩
def P2:aQ:=⟨1,[.tmp 2],kJ (rP [GY]) (E2 1 1)⟩
def dO7:jG Tryz.prog 103=true:=by kernel_rfl
def aN7:aQ:=⟨2,[.tmp 4],nJ LW (He (tN 154 [bV]) bD)⟩
def cV9:bJ 105=some aN7:=by kernel_rfl
def BR:C:=j7 13 12 11 (jC 13 0 [7] 1 (rV (BW 14 7 10 12 [lT 15 7 14 [],fI 9 [aL,aL,aL,aL,bO],eV 7 9 15] [14,15]) 31 (rT (mO 1 9 bV) (BX 4 9 fB) (jE .leq 2 (kU 5 9))) 31 (eQ 32 7 (lT 33 7 9 []) [.bsl 34 156 7 [L0],rS 35 156 7 64 32 34,zV 35] [32,33,34,35])) 12 12)
def Sn:aQ:=⟨3,[.tmp 6],iO (rR 6 156 [] [] []) (rR 7 156 [] [] []) (lB [mX 10,k7 11 [Ag],QY] [] 0 [1,2,7,10,11,12] BR) (eQ 37 7 (zX 37) [] [37]) 6 []⟩
def aY0:bJ 106=some Sn:=by kernel_rfl
def aN6:aQ:=⟨2,[.tmp 3],tP (oY [Hh]) 3 (mY 108 (xM 7 fB) [Q0]) 3⟩
def cV8:bJ 107=some aN6:=by kernel_rfl
def Sm:aQ:=⟨3,[.tmp 6,.tmp 7],iO (Hj 3 [B7,GZ]) (rQ 8 0 30 [J5,bV,fB] [] [(9,oX 30 [J5,bV,fB] [])]) (jB 18 (qY 9) 18 [(6,bD),(7,m6)] 6 [7]) (dV 6 (uX (uX (uX (Nv 12 19 3 [bV]) l9) (Nv 156 20 3 [bV,fB])) (Nv 157 21 3 [bV,fB])) [(7,bD)]) 6 [7]⟩
def aX9:bJ 109=some Sm:=by kernel_rfl
def eY6:C:=j7 39 38 37 (jC 39 0 [] 1 (kL (BW 40 6 36 38 [lT 41 6 40 [],oZ 14 [aL,aL,aL,bO,cQ],eV 6 14 41] [40,41]) (.d [.fa 43 2 4 (.t 14),lT 44 4 43 [],Qe 45 160 [],bN 46 11,l8 47 159 44 QT [LZ],bN 42 47,fJ 48 42,fK 49 42,fI 15 [],lI 15 48,eR 16 49] [[],[0],[],[],[0,1,2,3],[0,1,2,3,4],[0,1,2,3,4,5],[0,1,2,3,4,5],[],[0,1,2,3,4,5,6,8],[0,1,2,3,4,5,6,7,8,9]] [43,44,45,46,47,42,48,49]) (m7 (nZ 51 (qY 16) 51 10 U0 10 []) 17 Ee (jO (rV (mZ 55 1 14 [bX 56 55,nK 57 161 56 [],bN 54 57,fJ 58 54,fK 59 54,Dk 18 .nf [],eV 1 18 58,eR 19 59] [55,56,57,54,58,59]) 60 (xS 19) 60 (iZ 17 17 (pB 162 (rA 22 5) [fB,dY U5 (kU 0 18) [dH],dH]))) 74 (jE .gtr 17 (kU 1 15)) 74 10 (xN 20) 10 []))) 38 38)
def aN4:aQ:=⟨5,[.tmp 10],oK (Hj 5 [Ns 6,y5 10]) (nZ 23 (mA (sO (kU 18 6)) bD) 23 10 bD 10 []) (lV 25 22 [.t 5] [qI 26,bN 27 3,bN 28 4,l8 29 158 25 J3 [Hl,L6],bN 24 29,fJ 30 24,fK 31 24,eR 11 30,eR 12 31] [25,26,27,28,29,24,30,31]) (nZ 33 UV 33 10 Nu 10 []) (tP (lB [iU 35 18 6,bX 36 35,k7 37 [L3],mN 38] [35] 0 [2,3,4,5,11,36,37,38] eY6) 10 bD 10)⟩
def cV7:bJ 110=some aN4:=by kernel_rfl
def aN3:aQ:=⟨2,[.tmp 4],nJ (xQ 4 uV) (mY 163 (mY 164 aU2 [cI]) [bV])⟩
def cV6:bJ 112=some aN3:=by kernel_rfl
def Po:C:=j7 13 12 11 (jC 13 0 [1,3,4] 1 (wC [j8 14 3 10 12,lT 15 3 14 [],fI 6 [bO],eV 3 6 15] [14,15] (.d [bN 16 3,iU 17 0 6,bX 18 17,nK 19 166 18 [],rO 20 6,bX 21 20,nK 22 166 21 [],iU 23 2 6,bX 24 23,sP 25 9 [.t 19,B9,L4],nK 26 165 25 [],sP 27 9 [J3],rS 28 9 1 16 16 27,A8 28] [[],[],[1],[1,2],[],[4],[1,2,3,4,5],[],[7],[1,2,3,4,5,6,7,8],[1,2,3,4,5,6,7,8,9],[1,2,3,4,5,6,7,8,9,10],[0,1,2,3,4,5,6,7,8,9,10,11],[0,1,2,3,4,5,6,7,8,9,10,11,12]] [16,17,18,19,20,21,22,23,24,25,26,27,28])) 12 12)
def TU:C:=j9 44 (pQ 43 6) (jC 44 2 [1,3,4] 3 (j9 8 (dY (.aix 6 1 false) (xS 42) [xS 43]) (vW 46 4 47 8 [nK 48 166 47 [],sP 49 9 [.t 48],rS 50 9 1 16 46 49,eR 4 50] [46,47,48,49,50])) 43 43)
def aN2:aQ:=⟨1,[.tmp 2],gK Hg [C1 2 bO] (iO (rR 3 9 [] [tT 4 9 []] []) (lB [iU 9 8 1,bX 10 9,k7 11 [Ag],QY] [9] 0 [1,3,4,10,11,12] Po) (lB [iU 30 0 1,bX 31 30,rO 32 1,bX 33 32,iU 34 2 1,bX 35 34,iU 36 3 1,bX 37 36,iU 38 4 1,bX 39 38,iU 40 5 1,bX 41 40,mL 42 [aL,aL,aL,aL,aL] [(0,1),(1,1),(2,1),(3,1),(4,1),(5,1)] [.t 31,L0,QV,.t 37,.t 39,.t 41],mN 43] [30,31,32,33,34,35,36,37,38,39,40,41] 2 [1,3,4,42,43] TU) (.d [bN 52 4,iU 53 6 1,bX 54 53,iU 55 7 1,bX 56 55,bN 57 3,nK 58 165 57 [],sP 59 9 [.t 54,.t 56,QU],rS 60 9 1 16 52 59,nK 61 165 60 [],eR 2 61] [[],[],[1],[],[3],[],[5],[1,2,3,4,5,6],[0,1,2,3,4,5,6,7],[0,1,2,3,4,5,6,7,8],[0,1,2,3,4,5,6,7,8,9]] [52,53,54,55,56,57,58,59,60,61]) 2 [])⟩
def cV5:bJ 113=some aN2:=by kernel_rfl
def HM:C:=j7 14 13 12 (jC 14 0 [0,6,8] 1 (rV (eQ 15 13 (j8 16 19 11 13) [kI 17 19 G1 [],oZ 10 [bO,bO,aL,aL,aL,aL,cQ,gI,aL,aL,gI,cQ,gI,aL,aL,gI,cQ,cQ],eR 9 15,D9 10 17] [15,16,17]) 41 (rT (mO 0 10 bV) (BX 3 10 fB) (gH (pQ 8 0) (pP 3 10 (mM 3 19 8)))) 41 (xQ 8 m6)) 13 13)
def Sl:aQ:=⟨3,[.cell 6 19 true,.tmp 7],gK (oZ 6 [bO,bO,aL,aL,aL,aL,cQ,gI,aL,aL,gI,cQ,gI,aL,aL,gI,cQ,cQ]) [LU] (iO (xQ 8 Hn) (lB [mX 11,k7 12 [Bb],mN 13] [] 0 [0,1,2,6,8,11,12,13] HM) (pN 45 (pQ 8 0) 45 [nX 46 bO [bO,bO,aL,aL,aL,aL,cQ,gI,aL,aL,gI,cQ,gI,aL,aL,gI,cQ,cQ] [] [],D9 6 46,LU] [46] 6 [7]) (vW 47 0 48 8 [j8 49 19 47 48,lT 50 19 49 [],D9 6 50,Q4 7] [47,48,49,50]) 6 [7])⟩
def aX8:bJ 114=some Sl:=by kernel_rfl
def NH:C:=G2 (CZ 17 9 v8 17 0 [0,2,4,8,9]) 1 (sQ 11 (dY Di (xB .shr (dY z8 (Dh 9 v8) []) (Bf 1)) []) 31 (tR (dY U5 fB [xT 3 3 11,rA 3 4]) bD) (Ek 31 (C0 9 11 1) (xQ 10 J7)))
def Sc:aQ:=⟨3,[.tmp 6,.tmp 7],gK (Ns 4) [B7,LU] (iO (xQ 8 oH) (dV 9 bD [(10,l9)]) (GS [0,2,4,8,9,10] NH) (dV 6 m6 [(7,JW (U7 9 8) (dY U5 fB [xT 3 3 9,rA 3 4]) bD)]) 6 [7])⟩
def dO4:jG Tryz.prog 148=true:=by kernel_rfl
def WM:aQ:=⟨2,[.tmp 4],nJ (oY [vX,sR]) (jM 33 (Ny (.bsl 1) 34 [Hi,Hk] [mY 35 Np [uW 2]]))⟩
def dO3:jG Tryz.prog 149=true:=by kernel_rfl
def I':C:=j7 9 8 7 (jC 9 0 [] 1 (jO (xQ 5 l9) 16 (dY Ho bV [xT 3 3 5]) 16 4 m5 4 []) 8 8)
def HG:aQ:=⟨2,[.tmp 4],vY 4 (H6 (CS [(7,oH),(8,bD)] [0,1,7,8] I'))⟩
def dO2:jG Tryz.prog 151=true:=by kernel_rfl
def aX6:bJ 151=some HG:=by kernel_rfl
def TN:C:=j7 9 8 7 (jC 9 0 [] 1 (jO (xQ 5 l9) 16 (dY Ho bV [xT 7 7 5]) 16 4 m5 4 []) 8 8)
def Sb:aQ:=⟨2,[.tmp 4],vY 4 (H6 (CS [(7,oH),(8,bD)] [0,1,7,8] TN))⟩
def aX5:bJ 154=some Sb:=by kernel_rfl
def ND:C:=j7 13 12 11 (jC 13 0 [7] 1 (rV (BW 14 6 10 12 [lT 15 6 14 [],fI 9 [aL,aL,aL,bO],eV 6 9 15] [14,15]) 31 (rT (mO 1 9 bV) (BX 3 9 fB) (jE .leq 2 (kU 4 9))) 31 (iZ 7 7 (kU 2 9))) 12 12)
def aM1:aQ:=⟨3,[.tmp 6],sQ 6 bD 7 bD (tP (lB [mX 10,k7 11 [Ag],QY] [] 0 [1,2,7,10,11,12] ND) 6 v6 6)⟩
def cV1:bJ 156=some aM1:=by kernel_rfl
def GC:C:=j7 78 77 76 (jC 78 1 [2,3,10,13,14,16,18] 2 (rV (BW 79 10 75 77 [lT 80 10 79 [],fI 20 [aL,aL,aL,aL,bO,bO,cQ,jD],eV 10 20 80] [79,80]) 95 (rT (y7 .geq 1 20 Nu) (BX 1 20 fB) (mY 193 (rA 10 20) [bV])) 95 (C0 18 18 1)) 77 77)
def Kd:C:=j7 106 105 104 (jC 106 3 [2,3,10,13,14,16,18] 4 (rV (xQ 22 (xJ (xS 103) 105)) 114 (gH (pQ 22 (-1000000000000)) (BZ 22 1000000000000)) 114 (wA [tT 8 230 [],Ab 9 6] [] 8 [9])) 105 105)
def aM0:aQ:=⟨4,[.tmp 8,.tmp 9],gK (Lb 4) [tT 8 230 [],y5 9] (Le (lV 26 22 [Nk] [iT 27,l8 28 62 26 Hl [],bN 25 28,fJ 29 25,fK 30 25,fI 10 [aL,aL,bO,bO,bO],eV 7 10 29,eR 11 30] [26,27,28,25,29,30]) 0 (tU 31 (qG J7) 31 (wA [tT 8 230 [],Ab 9 11] [] 8 [9]) (pN 34 (gH (iS 188 fB) (CT 63 (rA 22 4) [bV,fB])) 34 [tT 8 230 [],Ab 9 16] [] 8 [9])) (CU (oJ 12 189 [fB]) (dV 13 (mY 12 (kU 19 4) [bV]) [(14,bD)]) (rV (mZ 51 19 4 [bX 52 51,iT 53,bN 54 12,rO 55 10,bX 56 55,.q 57 .mx [.t 54,.t 56],qI 58,l7 59 190 52 53 [.t 57,QU],eR 15 59] [51,52,53,54,55,56,57,58,59]) 62 (Hs (sO (xS 15)) bD) 62 (oJ 14 191 [xS 15])) (mZ 66 19 4 [bX 67 66,iT 68,bN 69 12,qI 70,l7 71 192 67 68 [.t 69,QX],bN 65 71,fJ 72 65,fK 73 65,eR 16 72,eR 17 73] [66,67,68,69,70,71,65,72,73,17]) (Q6 18) (lB [iU 74 19 4,bX 75 74,k7 76 [.t 75],mN 77] [74] 1 [1,2,3,10,12,13,14,16,18,75,76,77] GC) (iO (lB [bN 99 13,bN 100 14,bN 101 16,bN 102 3,sP 103 3 [.t 99,Q5,.t 101,U1],k7 104 [.t 103],mN 105] [99,100,101,102] 3 [2,3,10,13,14,16,18,103,104,105] Kd) (nL (C1 23 (.f (.func 194) [] [])) [] []) (nL (C1 24 (.f (.func 195) [] [])) [] []) (.d [GR 116,bN 117 13,CX 118 [.t 116,.t 117],GR 119,bN 120 14,CX 121 [.t 119,.t 120],GR 122,bN 123 16,CX 124 [.t 122,.t 123],GR 125,bN 126 3,CX 127 [.t 125,.t 126],bN 128 24,bN 129 18,CX 130 [.t 128,.t 129],bN 131 24,qI 132,rO 133 10,bX 134 133,.q 135 (.bin .sub) [.t 132,.t 134],CX 136 [.t 131,.t 135],qI 137,mL 138 [aL] [(0,1),(1,1)] [B6,.t 137],.bsl 139 230 2 [.t 118,.t 121,.t 124,.t 127,.t 130,.t 136,.t 138],xR 139,y5 9] [[],[],[0,1],[],[],[0,1,2,3,4],[],[],[0,1,2,3,4,5,6,7],[],[],[0,1,2,3,4,5,6,7,8,9,10],[],[],[0,1,2,3,4,5,6,7,8,9,10,11,12,13],[],[],[],[17],[16,17,18],[0,1,2,3,4,5,6,7,8,9,10,11,12,13,14,15,16,17,18,19],[],[21],[0,1,2,3,4,5,6,7,8,9,10,11,12,13,14,15,16,17,18,19,20,21,22],[0,1,2,3,4,5,6,7,8,9,10,11,12,13,14,15,16,17,18,19,20,21,22,23],[0,1,2,3,4,5,6,7,8,9,10,11,12,13,14,15,16,17,18,19,20,21,22,23,24]] [116,117,118,119,120,121,122,123,124,125,126,127,128,129,130,131,132,133,134,135,136,137,138,139]) 8 [9])))⟩
def cV0:bJ 158=some aM0:=by kernel_rfl
def Fr:aQ:=⟨3,[.cell 6 2 true,.tmp 7],gK Dc [fI 6 [],GZ] (iO (rV (oJ 8 196 [bV]) 14 (qY 8) 14 (wA [mL 15 [aL] [] [],bN 16 8,vV 15,zV 16] [15,16] 6 [7])) (rV (lV 18 4 [pO] [iT 19,l7 20 197 18 19 [],bN 17 20,fJ 21 17,fK 22 17,eR 9 21,Da 22] [18,19,20,17,21,22,9]) 24 UU 24 (wA [mL 25 [aL] [] [],bN 26 10,vV 25,zV 26] [25,26] 6 [7])) (pN 30 (CT 198 bV [fB]) 30 [mL 31 [aL] [] [],vV 31,Ab 7 1] [31] 6 [7]) (lV 32 4 [pO] [iT 33,qI 34,l8 35 199 32 L0 [G0],fJ 36 35,fK 37 35,vV 36,zV 37] [32,33,34,35,36,37]) 6 [7])⟩
def Qn:bJ 159=some Fr:=by kernel_rfl
def ZL:C:=j9 8 (pQ 7 4) (jC 8 0 [1] 1 (j9 3 (dY (.aix 4 1 false) nY [v6]) (vW 10 1 11 3 [nX 12 bO [aL] [(0,1),(1,1)] [Bb,B5],.bsl 13 272 2 [Dg],rS 14 272 2 24 10 13,eR 1 14] [10,11,12,13,14])) 7 7)
def ZS:C:=j9 18 (pQ 17 2) (jC 18 2 [1] 3 (j9 5 (dY (.aix 2 1 false) U0 [xS 17]) (vW 20 1 21 5 [nX 22 bO [aL] [(0,1),(1,1)] [.t 21,yZ],.bsl 23 272 2 [B9],rS 24 272 2 24 20 23,eR 1 24] [20,21,22,23,24])) 17 17)
def aL9:aQ:=⟨0,[.tmp 0],gK (tT 0 272 []) [] (iO (rR 1 272 [] [] []) (lB [nX 6 bO [bO,bO,bO] [(0,1),(1,1),(2,1),(3,1)] [fO 98 97 [108,97,110,99,101],fO 108 111 [119,101,115,116],fO 118 111 [108,117,109,101],fO 97 109 [111,117,110,116]],mN 7] [] 0 [1,6,7] ZL) (lB [nX 16 bO [bO] [(0,1),(1,1)] [fO 99 111 [117,110,116],fO 97 103 [101]],mN 17] [] 2 [1,16,17] ZS) (eQ 26 1 (nX 27 bO [aL] [(0,1),(1,1)] [fO 100 97 [121],B6]) [.bsl 28 272 2 [Hl],rS 29 272 2 24 26 28,eR 0 29] [26,27,28,29]) 0 [])⟩
def cU9:bJ 160=some aL9:=by kernel_rfl
def Mq:aQ:=⟨1,[.cell 2 1 true,.tmp 3],gK (Dk 2 .nf []) [Hh] (jX (Af 4 cI 0 (k8 5 4 2 5 (wA [nX 7 .nf [] [(0,1)] [.c (.f (.func 200) [] [])],eV 1 2 7,Q4 3] [7] 2 [3]) (pN 8 (iP 4 3) 8 [nX 10 .nf [] [(0,1)] [.c (.f (.func 189) [] [])],eV 1 2 10,Q4 3] [10] 2 [3]))) (nL (nX 11 .nf [] [] []) [eV 1 2 11,Hh] [11]) 2 [3])⟩
def YD:bJ 161=some Mq:=by kernel_rfl
def Pj:C:=j7 41 40 39 (jC 41 2 [1,2,3,9,12,16,17,18] 3 (rV (BW 42 3 38 40 [lT 43 3 42 [],fI 14 [bO],eV 3 14 43] [42,43]) 47 (mO 0 14 bV) 47 (iZ 12 12 (kU 1 14))) 40 40)
def Kc:C:=j7 19 18 17 (jC 19 0 [9] 1 (oK (BW 20 10 16 18 [lT 21 10 20 [],fI 11 [aL,aL,aL,aL,bO,bO,cQ,jD],eV 10 11 21] [20,21]) (iW 36 (wB (iS 201 (rA 10 11)) (qZ 1 11 fB) (pP 1 11 dH)) 36 (.exit 1 [1,2,3,9,16,17,18])) (Q6 12) (lB [iU 37 8 11,bX 38 37,k7 39 [.t 38],mN 40] [37] 2 [1,2,3,9,12,16,17,18,38,39,40] Pj) (iZ 9 9 (dY .mx bD [Nu]))) 18 18)
def aL8:aQ:=⟨4,[.tmp 8],m7 (Hj 4 [y5 8]) 9 bD (tP (lB [iU 15 19 4,bX 16 15,k7 17 [G1],mN 18] [15] 0 [1,2,3,9,16,17,18] Kc) 8 m6 8)⟩
def cU8:bJ 162=some aL8:=by kernel_rfl
def Wu:C:=j7 9 8 7 (jC 9 0 [0] 1 (j9 5 l9 (JY (Hd (jE .xor 0 (dY z8 (dY .idx bV [m5]) [])) Xp))) 8 8)
def aL7:aQ:=⟨2,[.tmp 4],j9 4 uV (nJ (CS [(7,dY .slen bV []),(8,bD)] [0,1,7,8] Wu) cI)⟩
def cU7:bJ 163=some aL7:=by kernel_rfl
def Wt:C:=j9 7 (pQ 6 8) (jC 7 0 [0] 1 (j9 5 nY (JY (Hd (jE .xor 0 (xB .and (jE .shr 1 (Hd (xN 8) m5)) (Bf 255))) Xp))) 6 6)
def aL6:aQ:=⟨2,[.tmp 4],j9 4 uV (nJ (iE 6 [0,1,6] Wt) cI)⟩
def cU6:bJ 164=some aL6:=by kernel_rfl
def aL5:aQ:=⟨1,[.tmp 2],kJ (xQ 2 uY) (tN 203 [])⟩
def cU5:bJ 166=some aL5:=by kernel_rfl
def aL1:aQ:=⟨1,[.tmp 2],BY uU (J0 0) Xo⟩
def cU4:bJ 188=some aL1:=by kernel_rfl
def aL0:aQ:=⟨1,[.tmp 2],jW Hc (eQ 9 0 (nK 10 215 9 []) [bN 8 10,fJ 11 8,fK 12 8,.ext 13 2 8,A8 11,eR 4 12,zW 13] [9,10,8,11,12,13,5]) (vW 15 3 16 4 [l8 17 216 15 G1 [yZ],bN 14 17,fJ 18 14,fK 19 14,zX 18,zV 19] [15,16,17,14,18,19,7]) 2 nY 2 []⟩
def cU3:bJ 189=some aL0:=by kernel_rfl
def TI:C:=rN 15 4 cI [] 15 [3] (xQ 3 (dY .mn dH [xJ cI 4])) 4 4
def aK9:aQ:=⟨1,[.tmp 2],vY 2 (m7 (iW 7 (tR oH dM) 7 JX) 3 (Ld (xI 1 cI bD)) (kJ (Hr 4 dM 0 [0,3,4] TI) dH))⟩
def cU1:bJ 191=some aK9:=by kernel_rfl
def aK8:aQ:=⟨2,[.tmp 4],jX (oY [vX,Nn]) (mZ 5 8 2 [bX 6 5,.mkf 7 (.func 218) 0 [pO],l8 8 217 6 tQ [],eR 4 8] [5,6,7,8]) 4 []⟩
def cT9:bJ 193=some aK8:=by kernel_rfl
def aK7:aQ:=⟨1,[.cell 2 2 true],jX (nL (fI 2 []) [] []) (eQ 3 0 (mL 4 [aL] [(0,1),(1,1)] [B5,pO]) [lI 2 4] [3,4]) 2 []⟩
def cT8:bJ 194=some aK7:=by kernel_rfl
def aK6:aQ:=⟨1,[.cell 2 2 true],jX (nL (fI 2 []) [] []) (eQ 3 0 (mL 4 [aL] [(0,1),(1,1)] [yZ,pO]) [lI 2 4] [3,4]) 2 []⟩
def cT7:bJ 195=some aK6:=by kernel_rfl
def Ph:C:=j7 27 26 25 (jC 27 2 [0,4,10,11,12] 3 (jO (BW 28 2 24 26 [kI 29 2 L6 [],oZ 6 [aL],vV 29] [28,29]) 34 (mO 0 6 (kU 0 4)) 34 2 (xN 12) 2 []) 26 26)
def NA:C:=j7 13 12 11 (jC 13 0 [] 1 (kL (eQ 14 12 (j8 15 2 10 12) [lT 16 2 15 [],oZ 4 [aL],A8 14,xP 16] [14,15,16]) (fP 21 (v7 (jM 219 (dY (.bld [aL,aL,bO,cQ] [(0,1),(2,1)]) B8 [kU 0 4])) bD) 21 2 4 2 []) (jO (lB [mX 22,bN 23 3,.slc 24 2 false true [B9,QW],k7 25 [L4],mN 26] [22,23] 2 [0,4,10,11,12,24,25,26] Ph) 39 (iS 220 (kU 1 4)) 39 2 z7 2 [])) 12 12)
def S8:aQ:=⟨1,[.tmp 2],jW Hc (fP 9 (pA cI [] 64) 9 2 5 2 []) (lB [mX 10,k7 11 [Ag],QY] [] 0 [0,10,11,12] NA) 2 bD 2 []⟩
def aX4:bJ 196=some S8:=by kernel_rfl
def S7:aQ:=⟨2,[.tmp 4,.tmp 5],gK GX [sR,xV] (jX (rV (oJ 6 219 [J1]) 10 QR 10 (kK [(4,bD),(5,nY)] 4 [5])) (rQ 4 0 221 [J1,bV] [] [(5,oX 221 [J1,bV] [])]) 4 [5])⟩
def aX3:bJ 197=some S7:=by kernel_rfl
def Pg:C:=j7 15 14 13 (jC 15 0 [] 1 (jO (eQ 16 14 (j8 17 2 12 14) [kI 18 2 L5 [],fI 6 [],zW 16,vV 18] [16,17,18]) 31 (gH (Aa 0 6 (mM 1 2 5)) (qG (pB 222 H7 []))) 31 4 iV 4 []) 14 14)
def S6:aQ:=⟨2,[.tmp 4],jW LW (nZ 11 (v7 oH m4) 11 4 iV 4 []) (lB [iT 12,k7 13 [Dg],mN 14] [] 0 [0,12,13,14] Pg) 4 qK 4 []⟩
def aX2:bJ 198=some S6:=by kernel_rfl
def Wo:C:=j7 39 38 37 (jC 39 1 [1,2,3,6] 2 (rV (eQ 40 38 (j8 41 2 36 38) [lT 42 2 41 [],oZ 9 [aL],xR 40,lI 9 42] [40,41,42]) 47 (JU 0 9 2) 47 (wA [qI 48,bN 49 8,j8 50 2 48 49,lT 51 2 50 [],vV 51,GZ] [48,49,50,51] 6 [7])) 38 38)
def Pf:C:=j7 85 84 83 (jC 85 3 [3,6,12] 4 (wC [j8 86 4 82 84,lT 87 4 86 [],fI 14 [bO,cQ],xO 14 87] [86,87] (kL (lV 89 4 [.t 14] [iT 90,qI 91,l7 92 199 89 90 [.t 91],bN 88 92,fJ 93 88,fK 94 88,fI 15 [],lI 15 93,eR 16 94] [89,90,91,92,88,93,94]) (pN 96 (qY 16) 96 [mL 97 [aL] [] [],bN 98 16,vV 97,zV 98] [97,98] 6 [7]) (eQ 99 12 (lT 100 2 15 []) [.bsl 101 230 2 [Q5],rS 102 230 2 16 99 101,eR 12 102] [99,100,101,102]))) 84 84)
def BL:aQ:=⟨3,[.cell 6 2 true,.tmp 7],gK Dc [fI 6 [],GZ] (iO (Af 18 Hk 0 (k8 19 18 1 19 (wA [gS 21 1,bX 22 21,mL 23 [aL] [(0,1),(1,1)] [yZ,B9],vV 23,GZ] [21,22,23] 6 [7]) (k8 24 18 2 24 (wA [gS 26 1,bX 27 26,mL 28 [aL] [(0,1),(1,1)] [B5,Hl],vV 28,GZ] [26,27,28] 6 [7]) (k8 29 18 3 29 (wA [gS 31 1,bX 32 31,mL 33 [aL] [(0,1),(1,1)] [y6 3,.t 32],vV 33,GZ] [31,32,33] 6 [7]) (k8 34 18 4 34 (lB [iT 36,k7 37 [L3],mN 38] [] 1 [1,2,3,6,36,37,38] Wo) (D8 53 18 19 53 (wC [gS 56 3,bX 57 56,U8 58 4 57 Nw,lT 59 4 58 [],iT 60,qI 61,l7 62 199 59 60 [.t 61],bN 55 62,fJ 63 55,fK 64 55,fI 10 [],lI 10 63,eR 11 64] [56,57,58,59,60,61,62,55,63,64] (jX (pN 66 (qY 11) 66 [mL 67 [aL] [] [],bN 68 11,vV 67,zV 68] [67,68] 6 [7]) (mZ 69 3 3 [bX 70 69,rO 71 10,bX 72 71,.q 73 (.bin .sub) [B5,.t 72],j8 74 4 70 73,lT 75 4 74 [],iT 76,qI 77,l7 78 199 75 76 [.t 77],fJ 79 78,fK 80 78,vV 79,zV 80] [69,70,71,72,73,74,75,76,77,78,79,80]) 6 [7])))))))) (rR 12 230 [] [] []) (lB [gS 81 3,bX 82 81,k7 83 [.t 82],mN 84] [81] 3 [1,2,3,6,12,82,83,84] Pf) (mZ 104 0 3 [bX 105 104,bN 106 12,l7 107 223 105 106 [],fJ 108 107,fK 109 107,vV 108,zV 109] [104,105,106,107,108,109]) 6 [7])⟩
def Li:bJ 199=some BL:=by kernel_rfl
def aK5:aQ:=⟨1,[.tmp 2],kJ Hc cI⟩
def cT6:bJ 200=some aK5:=by kernel_rfl
def Fq:aQ:=⟨1,[.tmp 2],gK Hg [GY] (kJ (Af 4 Ec 0 (.seq (E5 5 4 2 5 (E5 5 4 3 5 (E5 5 4 9 5 (Ej 5 .eql 4 14)))) (U9 5 (lW 2 (E2 4 1) 2 [])))) iV)⟩
def Qm:bJ 201=some Fq:=by kernel_rfl
def Pc:C:=G2 (Be 17 (GV (jM 231 (xY .add 5 1)) cI) 17 0 [0,5]) 1 (C0 5 5 1)
def Pb:C:=G2 (Be 28 (jE .geq 0 (mY 232 m5 [nY])) 28 2 [0,5,6]) 3 (j9 0 (Hb 0 (mY 232 m5 [nY])) (C0 6 6 1))
def aJ8:aQ:=⟨1,[.tmp 2,.tmp 3,.tmp 4],oK (dV 2 bD [(3,bD),(4,bD)]) (jB 9 (iS 188 cI) 9 [(2,bD),(3,bD),(4,bD)] 2 [3,4]) (xQ 5 (uZ (xN 2000) (Ha .quo 366))) (GS [0,5] Pc) (sQ 0 (Hb 0 (jM 231 m5)) 6 dM (jX (G7 2 [0,5,6] Pb) (dV 2 m5 [(3,nY),(4,Ha .add 1)]) 2 [3,4]))⟩
def cT5:bJ 215=some aJ8:=by kernel_rfl
def TH:C:=G3 (CZ 42 9 bV 42 0 [8]) (iZ 8 8 (tN 232 [m6])) 9 9
def aJ7:aQ:=⟨3,[.tmp 6,.tmp 7],xX [(6,bD),(7,bD)] (m7 (jB 34 (xU (wB (pQ 0 2000) (BZ 0 2199) (pQ 1 1)) (BZ 1 12) (pQ 2 1) (jE .gtr 2 (tN 232 [bV]))) 34 [(6,bD),(7,dM)] 6 [7]) 8 (uX (uZ (tN 231 []) fB) dM) (jX (Hr 9 dM 0 [0,1,8,9] TH) (dV 6 l9 [(7,bD)]) 6 [7]))⟩
def cT4:bJ 216=some aJ7:=by kernel_rfl
def aJ6:aQ:=⟨2,[.tmp 4],nJ LW (He (tN 151 [bV]) bD)⟩
def cT3:bJ 217=some aJ6:=by kernel_rfl
def aJ5:aQ:=⟨2,[.tmp 3],tP (oY [Hh]) 3 (mO 0 2 Q0) 3⟩
def cT2:bJ 218=some aJ5:=by kernel_rfl
def Fp:aQ:=⟨1,[.tmp 2],gK Hg [xW] (kJ (.blk 0 (tU 3 (gH (Bc (jM 233 L7) 64) (Bc (jM 234 L7) 8)) 3 (lW 2 De 2 []) (tU 12 (CT 235 L7 [.k (.f (.func 236) [] [])]) 12 (lW 2 dM 2 []) (fP 16 (CT 235 L7 [.k (.f (.func 237) [] [])]) 16 2 4 2 [])))) bD)⟩
def Ql:bJ 219=some Fp:=by kernel_rfl
def aJ4:aQ:=⟨1,[.tmp 2],BY uU (J0 1) (Nr 5)⟩
def cT1:bJ 220=some aJ4:=by kernel_rfl
def vA:C:=j7 33 32 31 (jC 33 1 [2,6] 2 (wC [j8 34 4 30 32,kI 35 4 G0 [],fI 8 [bO,cQ],xO 8 35] [34,35] (kL (rQ 9 0 221 [rA 4 8,bV] [] [(10,oX 221 [rA 4 8,bV] [])]) (jB 43 UU 43 [(4,bD),(5,v8)] 4 [5]) (vW 45 6 46 9 [sP 47 3 [LZ],rS 48 3 1 8 45 47,zX 48] [45,46,47,48]))) 32 32)
def Fo:aQ:=⟨2,[.tmp 4,.tmp 5],gK GX [sR,xV] (kL (Af 14 Hi 0 (k8 15 14 1 15 (kK [(4,dM),(5,bD)] 4 [5]) (k8 17 14 2 17 (kK [(4,CW),(5,bD)] 4 [5]) (k8 19 14 3 19 (kK [(4,z7),(5,bD)] 4 [5]) (jB 21 (iP 14 4) 21 [(4,Nx 0 238 [Np,bV] []),(5,oX 238 [Np,bV] [])] 4 [5]))))) (rR 6 3 [] [] []) (iO (lB [iU 29 3 2,bX 30 29,k7 31 [.t 30],mN 32] [29] 1 [1,2,6,30,31,32] vA) (rQ 11 0 239 [Hi,nY] [] [(12,oX 239 [Hi,nY] [])]) (jB 58 QZ 58 [(4,bD),(5,z7)] 4 [5]) (dV 4 J7 [(5,bD)]) 4 [5]))⟩
def Qk:bJ 221=some Fo:=by kernel_rfl
def HE:aQ:=⟨1,[.tmp 2],gK Hg [GY] (kJ (Af 4 Ad 0 (k8 5 4 1 5 (lW 2 qK 2 []) (k8 7 4 2 7 (lW 2 (gT (y7 .geq 1 1 Xq) (BX 1 1 Hp)) 2 []) (k8 17 4 3 17 (lW 2 (gT (y7 .geq 1 1 (xN (-1000000000))) (BX 1 1 (xN 1000000000))) 2 []) (k8 27 4 4 27 (lW 2 (gT (y7 .geq 1 1 bD) (BX 1 1 (xN 73048))) 2 []) (qH 37 (iP 4 5) 37 (gH (E2 1 1) (mO 1 1 dM)) [])))))) iV)⟩
def cT0:bJ 222=some HE:=by kernel_rfl
def TF:C:=j7 19 18 17 (jC 19 0 [0,1,4,6] 1 (wC [j8 20 2 16 18,lT 21 2 20 [],fI 8 [],lI 8 21] [20,21] (eQ 22 6 (iU 23 0 8) [bX 24 23,sP 25 3 [L4],rS 26 3 1 8 22 25,zX 26] [22,23,24,25,26])) 18 18)
def P9:C:=j7 40 39 38 (jC 40 2 [0,1,4,9] 3 (rV (BW 41 2 37 39 [lT 42 2 41 [],fI 12 [],lI 12 42] [41,42]) 45 (iS 222 (H8 12)) 45 (wA [mL 46 [aL] [] [],xP 46,Ab 5 1] [46] 4 [5])) 39 39)
def Fm:aQ:=⟨2,[.cell 4 2 true,.tmp 5],gK (fI 4 []) [xV] (oK (rR 6 3 [] [] []) (lB [iT 16,k7 17 [G1],mN 18] [] 0 [0,1,4,6,16,17,18] TF) (rQ 9 0 239 [cI,nY] [] [(10,oX 239 [cI,nY] [])]) (pN 35 UT 35 [mL 36 [aL] [] [],xP 36,Ab 5 3] [36] 4 [5]) (oK (lB [iT 37,k7 38 [.t 37],mN 39] [] 2 [0,1,4,9,37,38,39] P9) (eQ 48 9 (mL 49 [aL] [(0,1)] [.t 48]) [fI 13 [],lI 13 49] [48,49]) (iW 55 (gH (pQ 0 5) (BZ 0 9)) 55 (jX (eQ 56 0 (iT 57) [l7 58 240 56 57 [],rO 59 13,eV 1 59 58] [56,57,58,59]) (lV 60 2 [J4] [xP 60,xV] [60]) 4 [5])) (rQ 14 0 241 [cI,bV] [] [(15,oX 241 [cI,bV] [])]) (iO (eQ 67 14 (rO 68 13) [eV 1 68 67] [67,68]) (iW 75 (gT (iP 15 0) (iS 222 (H8 13))) 75 (xQ 15 Dd)) (pN 77 (qY 15) 77 [mL 78 [aL] [] [],bN 79 15,xP 78,zW 79] [78,79] 4 [5]) (lV 80 2 [J4] [xP 80,xV] [80]) 4 [5])))⟩
def Qj:bJ 223=some Fm:=by kernel_rfl
def WK:aQ:=⟨1,[.tmp 2],vY 2 (m7 (Ej 3 .sub 0 2000) 4 (xB .quo (xY .add 3 3) B8) (kJ (iW 11 (BZ 0 2100) 11 (Ej 4 .sub 4 1)) (uZ (Hd (xN 365) dH) Ee)))⟩
def cS9:bJ 231=some WK:=by kernel_rfl
def WJ:aQ:=⟨2,[.tmp 4],jW (Q6 4) (nL (mL 6 [aL,aL,aL,aL,aL,aL,aL,aL,aL,aL,aL,aL] [(0,1),(1,1),(2,1),(3,1),(4,1),(5,1),(6,1),(7,1),(8,1),(9,1),(10,1),(11,1),(12,1)] [Nw,LY,y6 28,LY,y6 30,LY,y6 30,LY,LY,y6 30,LY,y6 30,LY]) [fI 5 [aL,aL,aL,aL,aL,aL,aL,aL,aL,aL,aL],eV 13 5 6] [6]) (fP 12 (gT (iP 1 2) (tN 251 [])) 12 4 29 4 []) 4 (Ld (dY (.pix 13 1) m5 [bV])) 4 []⟩
def cS8:bJ 232=some WJ:=by kernel_rfl
def Wi:C:=j7 10 9 8 (jC 10 0 [3] 1 (wC [j8 11 4 7 9,kI 12 4 Bb [],fI 5 [bO,cQ],xO 5 12] [11,12] (iZ 3 3 (jM 233 (rA 4 5)))) 9 9)
def aJ1:aQ:=⟨1,[.tmp 2],m7 (rP [xW]) 3 dM (kJ (lB [iU 6 3 1,bX 7 6,k7 8 [tQ],mN 9] [6] 0 [3,7,8,9] Wi) dH)⟩
def cS7:bJ 233=some aJ1:=by kernel_rfl
def Wh:C:=j7 10 9 8 (jC 10 0 [3] 1 (wC [j8 11 4 7 9,kI 12 4 Bb [],fI 5 [bO,cQ],xO 5 12] [11,12] (xQ 3 (dY .mx dH [jM 234 (rA 4 5)]))) 9 9)
def aJ0:aQ:=⟨1,[.tmp 2],m7 (rP [xW]) 3 bD (kJ (lB [iU 6 3 1,bX 7 6,k7 8 [tQ],mN 9] [6] 0 [3,7,8,9] Wh) (xY .add 3 1))⟩
def cS6:bJ 234=some aJ0:=by kernel_rfl
def Mk:aQ:=⟨2,[.tmp 4],jX (oY [vX,Nn]) (.g [.s (.q 5 (.ld 1 false) [pO]),.s (lT 6 4 2 []),.s (CX 7 [.t 5,GW]),.s (bN 8 7),E6 8 9 (iU 9 3 2),E6 8 10 (bX 10 9),E6 8 11 (.mkf 11 (.func 253) 0 [pO]),E6 8 12 (Ef 12 252 Ag [Bb]),E6 8 13 (.q 13 G6 [Dg]),.pick 14 8 J4 (.c gI),.s (eR 4 14)] [5,6,7,8,9,10,11,12,13,14]) 4 []⟩
def YC:bJ 235=some Mk:=by kernel_rfl
def uK:aQ:=⟨1,[.tmp 2],m7 (rP [GY]) 3 bD (BY (Af 5 Ad 0 (k8 6 5 1 6 (xQ 3 aU1) (k8 8 5 2 8 (xQ 3 Hp) (D8 10 5 3 10 (xQ 3 U3))))) (rT (mA (pB 254 Ad []) (sO Ec)) (y7 .geq 1 1 bD) (BX 1 1 dH)) (gH (mO 2 1 uY) (mO 0 1 B8)))⟩
def Ul:bJ 236=some uK:=by kernel_rfl
def S4:aQ:=⟨1,[.tmp 2],kJ (rP [GY]) (gH (Aa 0 1 B8) (jM 255 Ed))⟩
def aX1:bJ 237=some S4:=by kernel_rfl
def TE:C:=j7 11 10 9 (jC 11 0 [] 1 (rV (BW 12 2 8 10 [kI 13 2 Dg [],oZ 7 [aL],lI 7 13] [12,13]) 17 (mO 0 7 cI) 17 (jX (jB 21 (iS 220 (kU 1 7)) 21 [(4,bD),(5,z7)] 4 [5]) (dV 4 (kU 1 7) [(5,bD)]) 4 [5])) 10 10)
def aI9:aQ:=⟨2,[.tmp 4,.tmp 5],xX [(4,bD),(5,bD)] (jX (lB [iT 8,k7 9 [E9],mN 10] [] 0 [0,8,9,10] TE) (dV 4 bD [(5,B8)]) 4 [5])⟩
def cS5:bJ 238=some aI9:=by kernel_rfl
def Fz:C:=j7 13 12 11 (jC 13 0 [0,1] 1 (rV (xQ 7 (xJ v8 12)) 18 (iS 220 v6) 18 (kK [(4,bD),(5,iV)] 4 [5])) 12 12)
def sI:aQ:=⟨2,[.tmp 4,.tmp 5],kL (dV 4 bD [(5,iV)]) (lB [iT 10,k7 11 [Ag],QY] [] 0 [0,1,10,11,12] Fz) (iO (dV 8 bD [(9,iV)]) (Af 21 m4 2 (k8 22 21 1 22 (rQ 8 0 256 [cI,E8] [] [(9,oX 256 [cI,E8] [])]) (k8 32 21 2 32 (dV 8 (oI 0 257 cI [E8,J2] []) [(9,oI 1 257 cI [E8,J2] [])]) (D8 45 21 3 45 (dV 8 J2 [(9,rT (iP 0 19) (mA E8 De) (mA J2 (U4 CW)))]))))) (jB 68 (qG m6) 68 [(4,bD),(5,iV)] 4 [5]) (dV 4 l9 [(5,qK)]) 4 [5])⟩
def Em:bJ 239=some sI:=by kernel_rfl
def wW:aQ:=⟨2,[.tmp 4],sQ 4 bD 5 (uT 1 1 1 2 bV bD) (m7 (Af 11 cI 0 (k8 12 11 16 12 (lW 4 (uX dM m5) 4 []) (D8 16 11 19 16 (nJ (nZ 19 (iP 5 1) 19 4 (uT 1 1 1 2 bV dM) 4 []) (uT 1 1 1 2 bV CW))))) 6 (uT 1 1 1 2 bV dM) (nJ (Af 32 cI 1 (k8 33 32 10 33 (lW 4 (jM 258 (Db 5 nY)) 4 []) (k8 39 32 11 39 (lW 4 (jM 258 (JV 5 nY)) 4 []) (k8 45 32 12 45 (lW 4 (jM 258 (U7 5 6)) 4 []) (k8 51 32 13 51 (lW 4 (jM 258 (jE .leq 5 nY)) 4 []) (k8 57 32 14 57 (lW 4 (zZ 5 nY) 4 []) (k8 62 32 15 62 (lW 4 (dY .mx m5 [nY]) 4 []) (nZ 67 (iP 32 17) 67 4 (dY .mn m5 [nY]) 4 [])))))))) (dY .mx m5 [nY])))⟩
def Hw:bJ 240=some wW:=by kernel_rfl
def DL:aQ:=⟨2,[.tmp 4,.tmp 5],xX [(4,bD),(5,bD)] (kL (eQ 8 1 (U8 9 2 8 Nw) [lT 10 2 9 [],fI 6 [],vV 10] [8,9,10]) (jB 12 (iP 0 9) 12 [(4,oI 0 259 (oI 0 260 (pB 261 bD []) [sN 6 []] []) [oI 1 260 (pB 261 bD []) [sN 6 []] []] []),(5,oI 1 259 (oI 0 260 (pB 261 bD []) [sN 6 []] []) [oI 1 260 (pB 261 bD []) [sN 6 []] []] [])] 4 [5]) (iO (eQ 23 1 (U8 24 2 23 yZ) [kI 25 2 L4 [],fI 7 [],lI 7 25] [23,24,25]) (Af 26 cI 0 (k8 27 26 5 27 (kK [(4,oI 0 259 (oI 0 262 (sN 6 []) [sN 7 []] []) [oI 1 262 (sN 6 []) [sN 7 []] []] []),(5,oI 1 259 (oI 0 262 (sN 6 []) [sN 7 []] []) [oI 1 262 (sN 6 []) [sN 7 []] []] [])] 4 [5]) (k8 41 26 6 41 (kK [(4,oI 0 259 (oI 0 260 (sN 6 []) [sN 7 []] []) [oI 1 260 (sN 6 []) [sN 7 []] []] []),(5,oI 1 259 (oI 0 260 (sN 6 []) [sN 7 []] []) [oI 1 260 (sN 6 []) [sN 7 []] []] [])] 4 [5]) (jB 55 (iP 26 7) 55 [(4,Nx 0 263 [H7,H8 7] []),(5,oX 263 [H7,H8 7] [])] 4 [5])))) (jB 64 (E2 1 7) 64 [(4,bD),(5,xN 7)] 4 [5]) (rQ 4 0 264 [H7,H8 7] [] [(5,oX 264 [H7,H8 7] [])]) 4 [5]))⟩
def OD:bJ 241=some DL:=by kernel_rfl
def aI5:aQ:=⟨1,[.tmp 2],BY uU (mA (Ha .rem 4) bD) (gH (v7 (Ha .rem 100) bD) (mA (Ha .rem 400) bD))⟩
def cS3:bJ 251=some aI5:=by kernel_rfl
def aI4:aQ:=⟨2,[.tmp 4],nJ LW (He (tN 276 [bV]) bD)⟩
def cS2:bJ 252=some aI4:=by kernel_rfl
def aI3:aQ:=⟨2,[.tmp 3],tP (oY [Hh]) 3 (CT 235 J1 [Q0]) 3⟩
def cS1:bJ 253=some aI3:=by kernel_rfl
def HD:aQ:=⟨1,[.tmp 2],jW Hc (Af 3 cI 0 (.seq (E5 4 3 1 4 (E5 4 3 2 4 (E5 4 3 3 4 (Ej 4 .eql 3 4)))) (Ek 4 (lW 2 bD 2 []) (.seq (E5 9 3 9 9 (Ej 9 .eql 3 16)) (Ek 9 (lW 2 dM 2 []) (fP 12 (iP 3 19) 12 2 3 2 [])))))) (fP 19 (gT (J0 5) (Nr 18)) 19 2 2 2 []) 2 Hn 2 []⟩
def cS0:bJ 254=some HD:=by kernel_rfl
def In:aQ:=⟨2,[.tmp 4,.tmp 5],xX [(4,bD),(5,iV)] (jX (Af 6 cI 0 (k8 7 6 16 7 (kK [(4,De),(5,iP 1 5)] 4 [5]) (jB 11 (iP 6 9) 11 [(4,bV),(5,wB (iP 1 1) (iP 1 2) (iP 1 3))] 4 [5]))) (dV 4 bD [(5,iV)]) 4 [5])⟩
def YB:bJ 256=some In:=by kernel_rfl
def aI2:aQ:=⟨1,[.tmp 2],vY 2 (kJ (qH 3 cI 3 dM []) bD)⟩
def cR9:bJ 258=some aI2:=by kernel_rfl
def Mj:aQ:=⟨2,[.tmp 4,.tmp 5],iO (oY [sR,xV]) (rQ 6 0 279 [xM 2 fB] [] [(7,oX 279 [xM 2 fB] [])]) (jB 18 (gH (qY 1) (qG v6)) 18 [(4,bD),(5,Dd)] 4 [5]) (dV 4 nY [(5,bD)]) 4 [5]⟩
def YA:bJ 259=some Mj:=by kernel_rfl
def aI1:aQ:=⟨1,[.cell 2 2 true],jX (nL (CV 2 jD []) [] []) (eQ 3 0 (.q 4 (.bin .shr) [pO,.c (Ja 63)]) [mX 5,.q 6 z8 [.t 5],mL 7 [jD] [(0,1),(1,1)] [Nk,GW],lI 2 7] [3,4,5,6,7]) 2 []⟩
def cR8:bJ 261=some aI1:=by kernel_rfl
def Il:aQ:=⟨2,[.tmp 4,.tmp 5],iO (oY [vX,sR,xV]) (mZ 7 1 2 [bX 8 7,gS 9 1,bX 10 9,l8 11 282 8 Ag [],CV 6 jD [],vV 11] [7,8,9,10,11]) (jB 26 (rT (Aa 0 2 Hk) (Aa 0 2 dM) (Aa 0 3 dM)) 26 [(4,Nx 0 283 [H7,U3,Dd] []),(5,oX 283 [H7,U3,Dd] [])] 4 [5]) (rQ 4 0 259 [H7,bD] [] [(5,oX 259 [H7,bD] [])]) 4 [5]⟩
def Uj:bJ 263=some Il:=by kernel_rfl
def DK:aQ:=⟨2,[.tmp 4,.tmp 5],iO (oY [vX,sR,xV]) (iW 10 (mO 0 2 Hk) 10 (jX (jB 18 (gT (mO 1 2 aU3) (mO 1 3 Hn)) 18 [(4,bD),(5,Dd)] 4 [5]) (dV 4 (y7 .quo 1 2 Ea) [(5,bD)]) 4 [5])) (.blk 0 (tU 24 (mO 1 3 aU3) 24 (kK [(4,bD),(5,bD)] 4 [5]) (jB 28 (qZ 1 3 bD) 28 [(4,oI 0 283 (pB 261 (dY Nt (Df 1) []) []) [dY Nt Ea [],Dd] []),(5,oI 1 283 (pB 261 (dY Nt (Df 1) []) []) [dY Nt Ea [],Dd] [])] 4 [5]))) (dV 4 (oI 0 283 (sN 2 []) [Ea,Dd] []) [(5,oI 1 283 (sN 2 []) [Ea,Dd] [])]) 4 [5]⟩
def OC:bJ 264=some DK:=by kernel_rfl
def TA:C:=j7 9 8 7 (jC 9 0 [] 1 (jO (xQ 5 l9) 16 (dY Ho bV [xT 4 4 5]) 16 4 m5 4 []) 8 8)
def SW:aQ:=⟨2,[.tmp 4],vY 4 (H6 (CS [(7,oH),(8,bD)] [0,1,7,8] TA))⟩
def aW9:bJ 276=some SW:=by kernel_rfl
def PZ:aQ:=⟨1,[.tmp 2,.tmp 3],m7 (rP [xW,Hh]) 4 (dY Di z6 []) (jX (jB 11 (dY (.eqa true [1,1]) (pB 261 Ee []) [xM 2 bV]) 11 [(2,bD),(3,iV)] 2 [3]) (dV 2 Ee [(3,qK)]) 2 [3])⟩
def aW8:bJ 279=some PZ:=by kernel_rfl
def Ik:aQ:=⟨2,[.cell 4 2 true],gK (CV 4 jD []) [] (iO (rQ 5 0 294 [tN 295 [],jM 295 bV] [] [(6,oX 294 [tN 295 [],jM 295 bV] [])]) (eQ 16 5 (.q 17 Di [G1]) [bN 18 6,mL 19 [jD] [(0,1),(1,1)] [L5,.t 18],CV 7 jD [],lI 7 19] [16,17,18,19]) (iW 24 (dY (.binb .neq) (pQ 0 0) [pQ 1 0]) 24 (lV 25 2 [tQ] [nK 26 296 25 [],lI 7 26] [25,26])) (lV 27 2 [tQ] [xP 27] [27]) 4 [])⟩
def Ui:bJ 282=some Ik:=by kernel_rfl
def aH8:aQ:=⟨3,[.tmp 6,.tmp 7],gK Dc [B7,GZ] (kL (jB 19 (gH (pQ 1 1) (iS 297 fB)) 19 [(6,bD),(7,dM)] 6 [7]) (lV 21 2 [pO] [iT 22,l8 23 298 21 B9 [],GR 20,fJ 24 20,fK 25 20,.ext 26 2 20,CV 8 jD [],lI 8 24,eR 9 25,Da 26] [21,22,23,20,24,25,26,10]) (iO (iW 28 (BZ 9 0) 28 (.d [kI 30 2 E9 [],kI 31 2 E9 [],bN 32 9,iT 33,qI 34,l7 35 299 31 32 [L0,G0],nK 36 261 35 [],l8 37 262 30 L3 [],bN 29 37,fJ 38 29,fK 39 29,lI 8 38] [[],[],[],[],[],[1,2,3,4],[1,2,3,4,5],[0,1,2,3,4,5,6],[0,1,2,3,4,5,6,7],[0,1,2,3,4,5,6,7,8],[0,1,2,3,4,5,6,7,8],[0,1,2,3,4,5,6,7,8,9]] [30,31,32,33,34,35,36,37,29,38,39])) (rQ 11 0 279 [H8 8] [] [(12,oX 279 [H8 8] [])]) (jB 46 QZ 46 [(6,bD),(7,Dd)] 6 [7]) (dV 6 J7 [(7,bD)]) 6 [7]))⟩
def cR7:bJ 283=some aH8:=by kernel_rfl
def aH5:aQ:=⟨2,[.tmp 4,.tmp 5],m7 (dV 4 uV [(5,uV)]) 6 (LS 0) (sQ 7 (E3 0) 8 (LS 1) (sQ 9 (E3 1) 10 (zZ 6 l9) (sQ 11 (uZ (zZ 7 l9) (E3 10)) 12 (LS 11) (sQ 13 (E3 11) 12 (Dh 12 (zZ 6 m6)) (m7 (xQ 4 (uZ (H9 (zZ 7 m6) 13) (E3 12))) 5 (zZ 0 bV) (Jb 4 [5]))))))⟩
def cR6:bJ 294=some aH5:=by kernel_rfl
def SV:aQ:=⟨1,[.tmp 2],j9 2 uV (kJ (qH 4 (pQ 0 0) 4 (dY Nt (Aj z8 []) []) []) (Aj z8 []))⟩
def aW7:bJ 295=some SV:=by kernel_rfl
def aH4:aQ:=⟨1,[.tmp 2],BY uU (J0 1) (Nr 6)⟩
def cR5:bJ 297=some aH4:=by kernel_rfl
def aH3:aQ:=⟨2,[.cell 4 2 true,.tmp 5,.tmp 6],kL (oY [CV 4 jD [],xV,B7]) (pN 12 (pQ 1 1) 12 [mL 13 [jD] [] [],xP 13,xV,Ab 6 1] [13] 4 [5,6]) (iO (lV 15 2 [.t 2] [nK 16 316 15 [],iT 17,.q 18 z8 [L5],l7 19 317 16 18 [],bN 14 19,fJ 20 14,fK 21 14,Dk 7 jD [jD],lI 7 20,xR 21] [15,16,17,18,19,14,20,21]) (iW 28 (gT (qZ 0 2 bD) (tS .gtr 8 0)) 28 (wC [kI 30 2 tQ [],l8 31 318 30 (.c (Ja 1)) [.c (Ja 1)],bN 29 31,fJ 32 29,fK 33 29,lI 7 32] [30,31,29,32,33] (xQ 8 (uX (dY z8 bV []) l9)))) (.dg [.s (kI 39 2 tQ []),.s (iU 40 0 2),.s (bX 41 40),.s (.q 42 (.bin .lss) [.t 41,Nw]),.s (bN 43 42),E6 43 44 (kI 44 2 tQ []),E6 43 45 (nX 45 jD [jD] [] []),E6 43 46 (.q 46 (.eqa true [1,1]) [QS,QT]),.pick 47 43 LZ (.c gI),.s (l7 48 319 39 47 []),.s (bN 38 48),.s (fJ 49 38),.s (fK 50 38),.s (CV 9 jD []),.s (lI 9 49),.s (Da 50)] [[],[],[1],[1,2],[1,2,3],[1,2,3,4],[1,2,3,4],[1,2,3,4,5,6],[1,2,3,4,5,6,7],[0,1,2,3,4,5,6,7,8],[0,1,2,3,4,5,6,7,8,9],[0,1,2,3,4,5,6,7,8,9,10],[0,1,2,3,4,5,6,7,8,9,10],[],[0,1,2,3,4,5,6,7,8,9,10,11,13],[0,1,2,3,4,5,6,7,8,9,10,11,12,13,14]] [39,40,41,42,43,44,45,46,47,48,38,49,50,10]) (lV 51 2 [Nl] [bN 52 8,.q 53 Di [.t 52],xP 51,zW 53,B7] [51,52,53]) 4 [5,6])⟩
def cR4:bJ 298=some aH3:=by kernel_rfl
def Mf:aQ:=⟨4,[.tmp 8],gK (Lb 4) [y5 8] (jW (xQ 9 (qZ 0 4 bD)) (iW 14 (pQ 3 5) 14 (tP (nZ 15 m6 15 0 Q7 8 []) 0 Q7 8)) (.blk 0 (tU 24 (jE .gtr 1 (Hb 2 bV)) 24 (lW 8 dM 8 []) (tU 30 (Ei 1 (Hb 2 bV)) 30 (lW 8 bD 8 []) (k8 36 3 6 36 (lW 8 (dY Di (y7 .and 1 4 (Bf 1)) []) 8 []) (nZ 43 m6 43 8 bD 8 []))))) 8 dM 8 [])⟩
def Xz:bJ 299=some Mf:=by kernel_rfl
def SU:aQ:=⟨1,[.cell 2 2 true],gK Hg [Dk 2 jD [jD]] (jX (iW 5 (qZ 0 1 bD) 5 (lV 6 2 [.t 1] [nK 7 296 6 [],lI 1 7] [6,7])) (mZ 8 0 1 [bX 9 8,.q 10 z8 [Nl],rO 11 1,bX 12 11,nX 13 jD [jD] [(0,1),(1,1)] [Ag,Dg],lI 2 13] [8,9,10,11,12,13]) 2 [])⟩
def aW6:bJ 316=some SU:=by kernel_rfl
def aH1:aQ:=⟨2,[.cell 4 2 true,.tmp 5],gK GX [Dk 4 jD [jD],C1 5 jD] (jX (dV 6 (oI 0 328 (y7 .rem 0 2 bV) [Df 1,bV] []) [(7,oI 1 328 (y7 .rem 0 2 bV) [Df 1,bV] [])]) (mZ 19 0 2 [bX 20 19,iT 21,.q 22 (.bin .quo) [.t 20,.t 21],bN 23 6,nX 24 jD [jD] [(0,1),(1,1)] [B9,QW],bN 25 7,xP 24,zW 25] [19,20,21,22,23,24,25]) 4 [5])⟩
def cR3:bJ 317=some aH1:=by kernel_rfl
def K3:aQ:=⟨2,[.cell 4 2 true,.tmp 5],gK GX [CV 4 jD [],xV] (iO (pN 23 (gH (pP 0 2 aU0) (gT (mO 0 2 aU0) (gH (qG bV) (pP 1 2 uV)))) 23 [mL 24 [jD] [] [],xP 24,Ab 5 6] [24] 4 [5]) (mZ 25 0 2 [bX 26 25,.q 27 Di [J3],rO 28 2,bX 29 28,mL 30 [jD] [(0,1),(1,1)] [Hl,.t 29],CV 6 jD [],vV 30] [25,26,27,28,29,30]) (iW 31 bV 31 (lV 32 2 [GW] [nK 33 296 32 [],vV 33] [32,33])) (lV 34 2 [GW] [xP 34,xV] [34]) 4 [5])⟩
def cR2:bJ 319=some K3:=by kernel_rfl
def DS:C:=G2 (Be 78 (U6 (Dj .geq 15) (zZ 15 v8) (H9 (Hd (Bf 4294967296) U0) 13)) 78 0 [2,8,9,10,11,13,14,15]) 1 (j9 15 (tS .sub 15 1) (rV (iZ 16 16 m6) 85 (Dj .geq 16) 85 (.exit 0 [2,8,9,10,11,13,14,15])))
def DR:C:=G2 (Be 113 (U6 (Dj .geq 18) (zZ 18 v8) (H9 (Hd (Bf 4294967296) U0) 14)) 113 2 [2,8,14,15,17,18]) 3 (j9 18 (tS .sub 18 1) (rV (iZ 16 16 m6) 120 (Dj .geq 16) 120 (.exit 2 [2,8,14,15,17,18])))
def WF:aQ:=⟨3,[.tmp 6,.tmp 7],oK (dV 6 uV [(7,uV)]) (iW 20 (tS .eql 2 0) 20 JX) (iW 24 (jE .leq 2 cI) 24 JX) (jB 27 (tS .eql 0 0) 27 [(6,jE .quo 1 fB),(7,jE .rem 1 fB)] 6 [7]) (sQ 8 (Ny z8 341 [fB] []) 2 (jE .shl 2 l9) (sQ 9 (E3 2) 10 (LS 2) (sQ 11 (xB .or (jE .shl 0 l9) (jE .shr 1 (uX (Bf 64) l9))) 12 (jE .shl 1 l9) (sQ 13 (E3 12) 14 (LS 12) (sQ 15 (jE .quo 11 m6) 16 (Hb 11 (zZ 15 m6)) (m7 (GS [2,8,9,10,11,13,14,15,16] DS) 17 (uX (H9 (Dj .mul 11) 13) (zZ 15 fB)) (sQ 18 (jE .quo 17 m6) 16 (Hb 17 (zZ 18 m6)) (jX (G7 2 [2,8,9,10,14,15,16,17,18] DR) (dV 6 (H9 (Dj .mul 15) 18) [(7,xB .shr (uX (H9 (Dj .mul 17) 14) (zZ 18 fB)) l9)]) 6 [7]))))))))⟩
def aW5:bJ 328=some WF:=by kernel_rfl
def aH0:aQ:=⟨1,[.tmp 2],kJ Hc (uX UZ (tN 124 []))⟩
def cQ9:bJ 341=some aH0:=by kernel_rfl
def TO:C:=j7 9 8 7 (jC 9 0 [] 1 (jO (xQ 5 l9) 16 (dY Ho bV [xT 4 4 5]) 16 4 m5 4 []) 8 8)
def Sd:aQ:=⟨2,[.tmp 4],vY 4 (H6 (CS [(7,oH),(8,bD)] [0,1,7,8] TO))⟩
def aX7:bJ 147=some Sd:=by kernel_rfl
def aN1:aQ:=⟨1,[.tmp 2],vY 2 (jW (iW 4 (Dj .geq 0) 4 (j9 0 (E3 0) (xQ 2 (xN 32)))) (iW 8 (tS .geq 0 65536) 8 (j9 0 (Q8 0 16) (C0 2 2 16))) (iW 14 (tS .geq 0 256) 14 (j9 0 (Q8 0 8) (C0 2 2 8))) 2 (Dh 2 (dY Di (dY .idx (GU [0,1,2,2,3,3,3,3,4,4,4,4,4,4,4,4,5,5,5,5,5,5,5,5,5,5,5,5,5,5,5,5,6,6,6,6,6,6,6,6,6,6,6,6,6,6,6,6,6,6,6,6,6,6,6,6,6,6,6,6,6,6,6,6,7,7,7,7,7,7,7,7,7,7,7,7,7,7,7,7,7,7,7,7,7,7,7,7,7,7,7,7,7,7,7,7,7,7,7,7,7,7,7,7,7,7,7,7,7,7,7,7,7,7,7,7,7,7,7,7,7,7,7,7,7,7,7,7,8,8,8,8,8,8,8,8,8,8,8,8,8,8,8,8,8,8,8,8,8,8,8,8,8,8,8,8,8,8,8,8,8,8,8,8,8,8,8,8,8,8,8,8,8,8,8,8,8,8,8,8,8,8,8,8,8,8,8,8,8,8,8,8,8,8,8,8,8,8,8,8,8,8,8,8,8,8,8,8,8,8,8,8,8,8,8,8,8,8,8,8,8,8,8,8,8,8,8,8,8,8,8,8,8,8,8,8,8,8,8,8,8,8,8,8,8,8,8,8,8,8,8,8,8,8,8,8]) [Aj (.cnv .u8) []]) [])) 2 [])⟩
def Jg:bJ 124=some aN1:=by kernel_rfl
def VU (o:aU)(a:Int):aS o (.bin .shr) [.i .u64 a,.i .u64 1]=some (.i .u64 (a.fdiv 2)):=by simp only[aS,lQ];rfl
def dM8 (o:aU)(k:Nat)(es:List V)(kk:IntKind):aS o (.ix k) [.l es,.i kk 1]=(es[1]?).bind fun e=>if e.cells.length=k then some (.r e.cells) else none:=ZI o k es kk 1
section
variable {T:Nat->Option aQ} {X:aU}
def cmpI (a b:Int):Int:=if a<b then -1 else if b<a then 1 else 0
def Ft (a b:List UInt8):Int:=if a<b then -1 else if b<a then 1 else 0
def c72 (h:T 72=some PV)(a:Int):nE T X 72 [.i .i64 a]=some (.b false):=VM.run h rfl rfl (by simp[PV])
def c73 (h:T 73=some PU)(s:List UInt8):nE T X 73 [.s s]=some (.b false):=VM.run h rfl rfl (by simp[PU])
def c34 (h:T 34=some PY)(h72:T 72=some PV)(a b:Int):nE T X 34 [.i .i64 a,.i .i64 b]=some (.i .i64 (cmpI a b)):=by refine VM.run h rfl rfl ?_;have h1:=c72 (X:=X) h72 a;have h2:=c72 (X:=X) h72 b;unfold cmpI;by_cases c1:a<b;simp[PY,h1,h2,c1];by_cases c2:b<a<;>simp[PY,h1,h2,c1,c2]
def c35 (h:T 35=some Md)(h73:T 73=some PU)(a b:List UInt8):nE T X 35 [.s a,.s b]=some (.i .i64 (Ft a b)):=by
 refine VM.run h rfl rfl ?_;have h1:=c73 (X:=X) h73 a;have h2:=c73 (X:=X) h73 b;unfold Ft;by_cases c1:a<b;simp[Md,h1,h2,X6,c1];by_cases c2:b<a;have bM:¬a=b:=fun e=>by subst e;exact aP0 _ c2
 simp[Md,h1,h2,X6,c1,c2,bM];have he:=ZK c1 c2;subst he;simp[Md,h1,X6,c1]
def l33 (o:aU)(x y:Int):bP o [3,6,7,8] P6 [(3,.i .i64 0),(6,.l [.i .i64 x,.i .i64 y]),(7,.i .i64 2),(8,.i .i64 0)]=some (if x≠0 then(.r,[(2,.i .i64 x)]) else if y≠0 then(.r,[(2,.i .i64 y)]) else(.e 0,[(3,.i .i64 0)])):=by
 have:=wK (o:=o) (kin:=[3,6,7,8]) (c:=P6) (fun i=>[(3,.i .i64 0),(6,.l [.i .i64 x,.i .i64 y]),(7,.i .i64 2),(8,.i .i64 (i:Int))]) 2 (fun i=>if i=0 then(if x≠0 then some x else none) else(if y≠0 then some y else none)) (fun z=>(.r,[(2,.i .i64 z)])) (.e 0,[(3,.i .i64 0)]) (by simp) (by simp) (fun i hi=>by
  have hw:=bC (i+1) (by omega)
  match i,hi with
  |0,_=>by_cases hx:x=0<;>simp[P6,hx,oV]
  |1,_=>by_cases hy:y=0<;>simp[P6,hy,dM8,oV]) (by simp[P6]) (by simp)
 simp only[fU] at this;rw[this];have hr:List.range 2=[0,1]:=by decide
 rw[hr];by_cases hx:x=0<;>by_cases hy:y=0<;>simp[hx,hy]
def c33 (h:T 33=some Me)(x y:Int):nE T X 33 [.l [.i .i64 x,.i .i64 y]]=some (.i .i64 (if x≠0 then x else y)):=by refine VM.run h rfl rfl ?_;have hl:=l33 (nE T X) x y;by_cases hx:x=0;by_cases hy:y=0;subst hx hy;simp at hl;simp[Me,bA,hl];subst hx;simp[hy] at hl;simp[Me,bA,hl];simp[hx] at hl;simp[Me,bA,hl,hx]
structure Tb (T:Nat->Option aQ):Prop where
 t33:T 33=some Me
 t34:T 34=some PY
 t35:T 35=some Md
 t72:T 72=some PV
 t73:T 73=some PU
 t149:T 149=some WM
 t148:T 148=some Sc
def eV8 (a b:Lg):HI a b=if cmpI a.acc b.acc≠0 then cmpI a.acc b.acc else Ft a.cur b.cur:=by
 unfold HI cmpI Ft;by_cases c1:a.acc<b.acc;have h1:a.lt b:= .inl c1;simp[h1,c1];by_cases c2:b.acc<a.acc;have h1:¬a.lt b:=by rintro(h|⟨h,_⟩)<;>omega
 have h2:b.lt a:= .inl c2;simp[h1,h2,c1,c2];have e:a.acc=b.acc:=by omega
 have h1:a.lt b↔a.cur<b.cur:=⟨fun h=>by rcases h with h|⟨_,h⟩;omega;exact h,fun h=> .inr ⟨e,h⟩⟩
 have h2:b.lt a↔b.cur<a.cur:=⟨fun h=>by rcases h with h|⟨_,h⟩;omega;exact h,fun h=> .inr ⟨e.symm,h⟩⟩
 simp only[h1,h2,c1,c2,mW,ne_eq,not_true_eq_false]
def bY9 (h:Tb T)(a b:Lg):nE T X 149 [a.v,b.v]=some (.i .i64 (HI a b)):=by refine VM.run h.t149 rfl rfl ?_;have h1:=c34 (X:=X) h.t34 h.t72 a.acc b.acc;have h2:=c35 (X:=X) h.t35 h.t73 a.cur b.cur;have h3:=c33 (X:=X) h.t33 (cmpI a.acc b.acc) (Ft a.cur b.cur);rw[<-eV8] at h3;simp[WM,h1,h2,h3]
def PH (L:List Lg)(x:Lg):Bool:=match L[gA L x]? with|some y=>decide (y.same x)|none=>false
def eC4 (h:Tb T)(L:List Lg)(x:Lg)(hs:yP L)(hl:L.length<=1000):
  bP (nE T X) [0,2,4,8,9,10] NH [(0,.l (aB Lg.v L)),(2,.f (.func 149) [] []),(4,.bx x.cells),(8,.i .i64 L.length),(9,.i .i64 0),(10,.i .i64 L.length)]=some (.e 0,[(0,.l (aB Lg.v L)),(2,.f (.func 149) [] []),(4,.bx x.cells),(8,.i .i64 L.length),(9,.i .i64 (gA L x))]):=by
 have:=dW (o:=nE T X) (kin:=[0,2,4,8,9,10]) (c:=NH) (fun k aA=>∃i j:Nat,aA=[(0,.l (aB Lg.v L)),(2,.f (.func 149) [] []),(4,.bx x.cells),(8,.i .i64 L.length),(9,.i .i64 (i:Int)),(10,.i .i64 (j:Int))]/\i<=gA L x/\gA L x<=j/\j<=L.length/\(j - i)+k<=L.length) L.length (fun r=>r=(.e 0,[(0,.l (aB Lg.v L)),(2,.f (.func 149) [] []),(4,.bx x.cells),(8,.i .i64 L.length),(9,.i .i64 (gA L x))])) (fun k aA hI=>by obtain⟨i,j,rfl,_⟩:=hI;simp) (fun k aA hk hI=>by
  obtain⟨i,j,rfl,h1,h2,h3,h4⟩:=hI;by_cases pY:i<j;left;have hm:(i+j) / 2<L.length:=by omega
  have cU:IntKind.i64.wrap ((i:Int)+(j:Int))=(((i+j:Nat)):Int):=by rw[bC _ (by omega)];simp
  have eZ:IntKind.u64.wrap (((i+j:Nat)):Int)=(((i+j:Nat)):Int):=by rw[IntKind.wrap_u64];omega
  have s8:Int.fdiv (((i+j:Nat)):Int) 2=(((i+j) / 2:Nat):Int):=by rw[zS _ (by omega)];rfl
  have hc:=bY9 (X:=X) h L[(i+j) / 2] x;generalize hmm:(i+j) / 2=m at hm s8 hc;generalize eK:i+j=s at cU eZ s8;have hw4:IntKind.i64.wrap (m:Int)=(m:Int):=bC _ (by omega);have hw5:IntKind.i64.wrap ((m:Int)+1)=(m:Int)+1:=bC _ (by omega);by_cases hx:L[m].lt x;have Bz:HI L[m] x<0:=bX8.2 hx;have bE:=(bN4 hs hm).1 hx;refine⟨_,by simp[NH,pY,cU,eZ,VU,s8,hw4,hw5,hm,hc,Bz],m+1,j,rfl,by omega,h2,h3,by omega⟩;have Bz:¬HI L[m] x<0:=fun e=>hx (bX8.1 e);have FY:gA L x<=m:=by rcases JN m (gA L x) with e|e;exact absurd ((bN4 hs hm).2 e) hx;exact e
  refine⟨_,by simp[NH,pY,cU,eZ,VU,s8,hw4,hm,hc,Bz],i,m,rfl,h1,FY,by omega,by omega⟩;right;have e:i=gA L x:=by omega
  subst e;exact⟨_,by simp[NH,pY],by simp,rfl⟩) (fun aA hI=>by
  obtain⟨i,j,rfl,h1,h2,h3,h4⟩:=hI;have e:i=gA L x:=by omega
  subst e;have pY:¬gA L x<j:=by omega
  exact⟨_,by simp[NH,pY],by simp,rfl⟩) L.length 0 _ (by omega) ⟨0,L.length,rfl,by omega,Zl L x,dD _,by omega⟩
 obtain⟨r,hr,rfl⟩:=this;exact hr
def eX9 (h:Tb T)(L:List Lg)(x:Lg)(hs:yP L)(hl:L.length<=1000):nE T X 148 [.l (aB Lg.v L),x.v,.f (.func 149) [] []]=some (.t [.i .i64 (gA L x),.b (PH L x)]):=by refine VM.run h.t148 rfl rfl ?_;have cW:=eC4 (X:=X) h L x hs hl;unfold PH;by_cases hi:gA L x<L.length;have hc:=bY9 (X:=X) h L[gA L x] x;have hz:(HI L[gA L x] x=0)↔(L[gA L x]).same x:=eV7;rw[eI hi];simp only[<-hz];generalize gA L x=m at hi hc cW;simp[Sc,bA,cW,hi,hc];have he:L[gA L x]? =none:=Tq (by omega);rw[he];simp[Sc,bA,cW,hi]
end
end Go.Proofs.YtdlpbedneamebaaGreatDoor
namespace Go.Proofs.YtdlpbedneamebaaGreatDoor
open Go.VM
@[reducible] def sG:cB:=⟨[(0,Ls),(5,XA)],[(150,⟨61,true,false,AD 61,0⟩)]⟩
noncomputable def OF:Nat->Option aQ:= @OE sG Tryz.prog []
noncomputable abbrev OM:aU:=nE OF fun _ _=>none
def dS5: @Ko sG Tryz.prog:=by
 letI:cB:=sG
 intro f mu hl;have hc:f=150/\mu=⟨61,true,false,AD 61,0⟩:=by simp only[cB.muts,List.lookup] at hl;split at hl;rename_i h;exact⟨by simpa using h,(uR hl).symm⟩;cases hl
 obtain⟨rfl,rfl⟩:=hc;exact⟨by kernel_rfl,fun es xs bW h=>(bQ3 es xs bW h).p⟩
def OK: @eL sG Tryz.prog OM:=by
 letI:cB:=sG
 exact SB (fun f fc hf=>YE (l:=[]) (fun p hp=>by cases hp) hf) (fun f xs y h=>by cases h) dS5
def jN {f:Nat}{fn:Func}{fc:aQ}(h2:jG Tryz.prog f=true)(h3:Tryz.prog.funcs[f]? =some fn)(h4: @oU Tryz.prog sG fn=some fc):OF f=some fc:=by unfold OF OE;have h1:Lj [] f=none:=rfl;rw[h1];simp only[h2,jA,h3,aZ,h4]
def m33: @oU Tryz.prog sG Tryz.f33=some Me:=by kernel_rfl
def m34: @oU Tryz.prog sG Tryz.f34=some PY:=by kernel_rfl
def m35: @oU Tryz.prog sG Tryz.f35=some Md:=by kernel_rfl
def m72: @oU Tryz.prog sG Tryz.f72=some PV:=by kernel_rfl
def m73: @oU Tryz.prog sG Tryz.f73=some PU:=by kernel_rfl
def dU5: @oU Tryz.prog sG Tryz.f149=some WM:=by kernel_rfl
def dU6: @oU Tryz.prog sG Tryz.f148=some Sc:=by kernel_rfl
def dU9: @oU Tryz.prog sG Tryz.f101=some BG:=by kernel_rfl
def eV6:Tb OF:=⟨jN dO1 Tryz.func33 m33,jN dO0 Tryz.func34 m34,jN dN9 Tryz.func35 m35,jN dN7 Tryz.func72 m72,jN dN6 Tryz.func73 m73,jN dO3 Tryz.func149 dU5,jN dO4 Tryz.func148 dU6⟩
def eU6 {L:List Lg}{x y:Lg}(hy:L[gA L x]? =some y)(h:y.same x):tE L x=L.set (gA L x) ⟨y.acc,IntKind.i64.wrap (y.amt+x.amt),y.cur⟩:=by unfold tE;rw[hy];simp only[h,jA]
def eU4 {L:List Lg}{x:Lg}(h:PH L x=false):tE L x=L.take (gA L x)++x::L.drop (gA L x):=by unfold PH at h;unfold tE;split;rename_i y hy;rw[hy] at h;simp only[decide_eq_false_iff_not] at h;rw[aK h];rfl
def eI5 {α β:Type}(f:β->α->β)(s:β)(l:List α){k:Nat}(hk:k<l.length):(l.take (k+1)).foldl f s=f ((l.take k).foldl f s) l[k]:=by rw[H1 hk,JL];rfl
def aC5 {α:Type}(f:α->V)(l:List α)(i:Nat)(x:α):aB f (l.set i x)=(aB f l).set i (f x):=by simp[aB,QH]
def dS7:Bk 150=⟨61,true,false,AD 61,0⟩:=rfl
set_option maxHeartbeats 4000000 in
def dJ0 (L:List Lg)(l:List Lg)(k:Nat)(hk:k<l.length)(hs:yP L)(hl:L.length<=1000)(vF:k<=1000):
  kE [0,9,10,11] (bI OM NI [(0,.ow 61 (aB Lg.v L)),(9,.l (aB Lg.v l)),(10,.i .i64 l.length),(11,.i .i64 k)])=some (.n,[(0,.ow 61 (aB Lg.v (tE L l[k]))),(9,.l (aB Lg.v l)),(10,.i .i64 l.length),(11,.i .i64 ((k+1:Nat):Int))]):=by
 have hw:=bC (k+1) (by omega);have h148:=eX9 (X:=fun _ _=>none) eV6 L l[k] hs hl;have hlb:=Zl L l[k];cases hf:PH L l[k] with
 |true=>
  have hf':=hf;unfold PH at hf';split at hf';rename_i y hy;have RW:y.same l[k]:=by simpa using hf'
  rw[eU6 hy RW];obtain⟨hi,rfl⟩:=fE.1 hy;rw[hf] at h148;generalize gA L l[k]=i at*;simp[NI,hk,hw,h148,hi,aC5];cases hf'
 |false=>
  rw[eU4 hf];rw[hf] at h148;have sC:AD 61 (aB Lg.v L) [.i .i64 (gA L l[k]:Int),.ow 61 [(l[k]).v]]=some (aB Lg.v (L.take (gA L l[k])++l[k]::L.drop (gA L l[k]))):=by
   unfold AD;have h1:(gA L l[k]:Int).toNat=gA L l[k]:=by omega
   simp only;rw[aY ⟨trivial,by omega,by rw[h1,uJ];exact hlb,by rw[uJ];omega⟩,h1];simp[aB]
  generalize gA L l[k]=i at*;simp[NI,hk,hw,h148,dS7,sC]
def eD2 (l:List Lg)(h:l.length<=1000):bP OM [0,9,10,11] NI [(0,.ow 61 []),(9,.l (aB Lg.v l)),(10,.i .i64 l.length),(11,.i .i64 0)]=some (.e 0,[(0,.ow 61 (aB Lg.v (yJ l)))]):=by
 have:=V4 (o:=OM) (kin:=[0,9,10,11]) (c:=NI) (fun k=>[(0,.ow 61 (aB Lg.v ((l.take k).foldl tE []))),(9,.l (aB Lg.v l)),(10,.i .i64 l.length),(11,.i .i64 (k:Int))]) l.length (.e 0,[(0,.ow 61 (aB Lg.v (yJ l)))]) (by simp) (fun k hk=>by
  have hs:yP ((l.take k).foldl tE []):=aB5 _ _ List.Pairwise.nil;have hl:((l.take k).foldl tE []).length<=1000:=by have h1:=Vm (l.take k) [];rw[gO] at h1;simp only[vR] at h1;omega
  rw[eI5 _ _ _ hk];exact dJ0 _ l k hk hs hl (by omega)) (by simp[NI,yJ]) (by simp)
 simpa using this
def dE7 (l:List Lg)(h:l.length<=1000):wH BG.res (bI OM BG.body (kR 0 (lC 0 (.ow 61 []) [.l (aB Lg.v l)])))=some (.ow 61 (aB Lg.v (yJ l))):=by have hl:=eD2 l h;simp[BG,lC,bA,kR,hl]
def Ze (l:List Lg):∀x∈cL (aB Lg.v l),x.flat=true:=by intro x hx;unfold cL aB at hx;simp only[sM,jL] at hx;obtain⟨_,⟨y,_,rfl⟩,hx⟩:=hx;simp only[V.cells,eP,xG,xH] at hx;rcases hx with rfl|rfl|rfl<;>rfl
def eU2 (es xs bW:List V)(h:M5 es xs=some bW):Pw Tryz.prog 101 0 61 true false es xs bW:=by unfold M5 at h;split at h;rename_i ls;simp only[bL] at h;obtain⟨l,hl,h⟩:=h;split at h;rename_i bT;cases h;rw[Zf hl];exact @dS4 sG Tryz.prog OM OK 101 _ Tryz.func101 _ dU9 0 61 [] [.l (aB Lg.v l)] (aB Lg.v (yJ l)) rfl rfl (Ze _) (dE7 l bT);cases h;cases h
end Go.Proofs.YtdlpbedneamebaaGreatDoor
namespace Go.Proofs.YtdlpbedneamebaaGreatDoor
open Go.VM Go.RowKit
section
variable {T:Nat->Option aQ} {X:aU}
def bZ0 (h:T 103=some P2)(x:Lg):nE T X 103 [x.v]=some (.b (decide (x.amt=0))):=VM.run h rfl rfl (by simp[P2])
def eX8 (h:T 151=some HG)(h3:T 103=some P2)(l:List Lg)(hl:l.length<=1000):∃z:Int,nE T X 151 [.l (aB Lg.v l),.f (.func 103) [] []]=some (.i .i64 z)/\((z= -1/\∀y∈l,y.amt≠0)\/∃i:Nat,∃hi:i<l.length,z=i/\l[i].amt=0/\∀j (hj:j<i),(l[j]'(by omega)).amt≠0):=by
 have:=dW (o:=nE T X) (kin:=[0,1,7,8]) (c:=I') (fun k aA=>aA=[(0,.l (aB Lg.v l)),(1,.f (.func 103) [] []),(7,.i .i64 l.length),(8,.i .i64 (k:Int))]/\∀j (hj:j<l.length),j<k->l[j].amt≠0) l.length (fun r=>(r=(.e 0,[])/\∀y∈l,y.amt≠0)\/∃i:Nat,∃hi:i<l.length,r=(.r,[(4,.i .i64 (i:Int))])/\l[i].amt=0/\∀j (hj:j<i),(l[j]'(by omega)).amt≠0) (fun k aA hI=>by obtain⟨rfl,_⟩:=hI;simp) (fun k aA hk hI=>by
  obtain⟨rfl,hz⟩:=hI;have hw:=bC (k+1) (by omega);have hc:=bZ0 (X:=X) h3 l[k];by_cases ha:l[k].amt=0;right;rw[yS ha] at hc;exact⟨(.r,[(4,.i .i64 (k:Int))]),by simp[I',hk,hc],by simp,.inr ⟨k,hk,rfl,ha,fun j hj=>hz j (by omega) hj⟩⟩;left;rw[zT ha] at hc;refine⟨_,by simp[I',hk,hc,hw];rfl,by simp,fun j hj hjk=> ?_⟩;rcases JN j k with h|h;exact hz j hj h;obtain rfl:j=k:=by omega
  exact ha) (fun aA hI=>by
  obtain⟨rfl,hz⟩:=hI;refine⟨_,by simp[I'],by simp,.inl ⟨rfl,fun y hy=> ?_⟩⟩;obtain⟨j,hj,rfl⟩:=lH hy;exact hz j hj hj) l.length 0 _ (by omega) ⟨rfl,fun j hj h=>absurd h (by omega)⟩
 obtain⟨r,hr,hQ⟩:=this;simp only[fU] at hr;rcases hQ with⟨rfl,hz⟩|⟨i,hi,rfl,ha,hz⟩;exact⟨-1,VM.run h rfl rfl (by simp[HG,bA,hr]),.inl ⟨rfl,hz⟩⟩;exact⟨i,VM.run h rfl rfl (by simp[HG,bA,hr]),.inr ⟨i,hi,rfl,ha,hz⟩⟩
end
def nz (y:Lg):Bool:=decide (y.amt≠0)
def dU8: @oU Tryz.prog sG Tryz.f103=some P2:=by kernel_rfl
def dU4: @oU Tryz.prog sG Tryz.f151=some HG:=by kernel_rfl
def aV2:OF 103=some P2:=jN dO7 Tryz.func103 dU8
def cX3:OF 151=some HG:=jN dO2 Tryz.func151 dU4
def Pp:C:=Le (xX [(19,Ae .lss 6 [US])] (Qd 19 .skip (.exit 0 [0,5]))) 1 (kL (vW 22 0 23 6 [j8 24 3 22 23,kI 25 3 L4 [],fI 7 [bO],eV 3 7 25] [22,23,24,25]) (dV 29 (qG (rB Ho 1 [rB (LV 3) 7 []])) []) (G4 29 (wC [mX 30,bN 31 5,kI 32 3 tQ [],j8 33 3 30 31,eV 3 33 32] [30,31,32,33] (dV 5 (rB Ah 5 [Ac]) [])))) (dV 6 (rB Ah 6 [Ac]) [])
def aB9 (l:List Lg){j:Nat}(hj:j<l.length):(l.take (j+1)).filter nz=(l.take j).filter nz++(if nz l[j]=true then[l[j]] else[]):=by rw[H1 hj,List.filter_append];cases h:nz l[j]<;>simp[h]
set_option maxHeartbeats 4000000 in
def eD1 (l:List Lg)(hl:l.length<=1000)(i0:Nat)(hi:i0<l.length)(ha:l[i0].amt=0)(hz:∀j (hj:j<i0),(l[j]'(by omega)).amt≠0):
  ∃(Y:List Lg) (i:Nat),bP OM [0,1,5,6] Pp [(0,.ow 61 (aB Lg.v l)),(1,.f (.func 103) [] []),(5,.i .i64 i0),(6,.i .i64 ((i0:Int)+1))]=some (.e 0,[(0,.ow 61 (aB Lg.v Y)),(5,.i .i64 i)])/\Y.length=l.length/\i<l.length/\Y.take i=l.filter nz:=by
 have:=dW (o:=OM) (kin:=[0,1,5,6]) (c:=Pp) (fun k aA=>∃(Y:List Lg) (i:Nat),aA=[(0,.ow 61 (aB Lg.v Y)),(1,.f (.func 103) [] []),(5,.i .i64 i),(6,.i .i64 (((i0+1+k:Nat)):Int))]/\Y.length=l.length/\i<i0+1+k/\i0+1+k<=l.length/\Y.take i=(l.take (i0+1+k)).filter nz/\Y.drop (i0+1+k)=l.drop (i0+1+k)) (l.length - (i0+1))
  (fun r=>∃(Y:List Lg) (i:Nat),r=(.e 0,[(0,.ow 61 (aB Lg.v Y)),(5,.i .i64 i)])/\Y.length=l.length/\i<l.length/\Y.take i=l.filter nz) (fun k aA hI=>by obtain⟨Y,i,rfl,_⟩:=hI;simp) (fun k aA hk hI=>by
  obtain⟨Y,i,rfl,hY,h1,h2,h3,h4⟩:=hI;left;have kD:i0+1+(k+1)=i0+1+k+1:=by omega
  rw[kD];obtain⟨j,hj⟩:∃j,j=i0+1+k:=⟨_,rfl⟩;have pE:j<l.length:=by omega
  rw[<-hj] at h1 h2 h3 h4⊢;clear hj kD hk;have hjY:j<Y.length:=by omega
  have hw:=bC ((j:Int)+1) (by omega);have hwi:=bC ((i:Int)+1) (by omega);have hYj:Y[j]=l[j]:=by
   have e1:(Y.drop j)[0]? =(l.drop j)[0]? :=by rw[h4]
   rw[xD,xD,EZ,eI hjY,eI pE] at e1;exact uR e1
  have h5:Y.drop (j+1)=l.drop (j+1):=by rw[<-m3,<-m3,h4]
  have hc:=bZ0 (X:=fun _ _=>none) aV2 Y[j];have hiY:i<Y.length:=by omega
  by_cases h0:Y[j].amt=0;rw[yS h0] at hc;refine⟨_,by simp[Pp,hY,pE,hjY,hc,hw];rfl,Y,i,by simp,hY,by omega,by omega,?_,h5⟩;rw[aB9 l pE,h3];have:nz l[j]=false:=by rw[<-hYj];simp[nz,h0]
  simp[this];rw[zT h0] at hc;have iJ:i<l.length:=by omega
  refine⟨[(0,.ow 61 (aB Lg.v (Y.set i Y[j]))),(1,.f (.func 103) [] []),(5,.i .i64 ((i+1:Nat):Int)),(6,.i .i64 ((j+1:Nat):Int))],by simp[Pp,hY,pE,hjY,hc,hw,hwi,iJ,aC5],Y.set i Y[j],i+1,rfl,by simpa using hY,by omega,by omega,?_,?_⟩;rw[aB9 l pE,<-h3];have:nz l[j]=true:=by rw[<-hYj];simp[nz,h0]
  rw[this,aY rfl,List.take_set,H1 hiY,<-hYj];rw[List.set_append_right _ _ (by rw[gO];omega)];have:i - (Y.take i).length=0:=by rw[gO];omega
  rw[this];rfl;rw[List.drop_set_of_lt (by omega)];exact h5) (fun aA hI=>by
  obtain⟨Y,i,rfl,hY,h1,h2,h3,h4⟩:=hI;have e:i0+1+(l.length - (i0+1))=l.length:=by omega
  rw[e] at h1 h3;rw[e];refine⟨_,by simp[Pp,hY],by simp,Y,i,rfl,hY,h1,?_⟩;rw[h3,D0]) (l.length - (i0+1)) 0 _ (by omega) ⟨l,i0,rfl,rfl,by omega,by omega,?_,rfl⟩
 obtain⟨r,hr,Y,i,rfl,h⟩:=this;exact⟨Y,i,by simpa using hr,h⟩;rw[EZ,aB9 l hi];have h0:nz l[i0]=false:=by simp[nz,ha]
 rw[h0];simp only[qW,mW,A4];rw[X2.2];intro y hy;obtain⟨j,hj,rfl⟩:=lH hy;rw[gO] at hj;rw[Tv];simpa[nz] using hz j (by omega)
end Go.Proofs.YtdlpbedneamebaaGreatDoor
namespace Go.Proofs.YtdlpbedneamebaaGreatDoor
open Go.VM Go.RowKit
noncomputable def Mu:Code:=Tryz.f102.body.getD .skip
noncomputable def KB:List Nat:=Bn Tryz.f102 Mu
noncomputable def d0:Code:=match Mu with | .seq a _=>a|_=> .skip
noncomputable def d1:Code:=match Mu with | .seq _ (.seq a _)=>a|_=> .skip
noncomputable def WB:Code:=match Mu with | .seq _ (.seq _ (.seq a _))=>a|_=> .skip
noncomputable def d3:Code:=match Mu with | .seq _ (.seq _ (.seq _ (.seq a _)))=>a|_=> .skip
noncomputable def PG:Array Oper:=match Mu with | .seq _ (.seq _ (.seq _ (.seq _ (.seq (.region _ x _) _))))=>x|_=> #[]
noncomputable def MX:Array Oper:=match Mu with | .seq _ (.seq _ (.seq _ (.seq _ (.seq _ (.seq (.region _ x _) _)))))=>x|_=> #[]
def eY7:Tryz.f102.body=some (.seq d0 (.seq d1 (.seq WB (.seq d3 (.seq (.region 11 PG false) (.seq (.region 12 MX false) .ret)))))):=by kernel_rfl
def bI8:Tryz.f102.ntmps=42:=Tryz.ntmps102
def kp0:KB.contains 0=true/\KB.contains 1=true/\KB.contains 4=true:=⟨by kernel_rfl,by kernel_rfl,by kernel_rfl⟩
def Zp:C:= rR 4 61 [] [] []
def FC:C:= dV 5 (B0 151 (.sl 0) [.sl 1]) []
def Cb:C:= vZ [(12,Ae .eql 5 [rU (-1)])] 12 (wA [mX 13,eR 4 13] [13] 4 [])
def Zo:C:= CS [(6,rB Ah 5 [Ac])] [0,1,5,6] Pp
def dk0: @pJ Tryz.prog sG 42 KB [4] d0 [] [0,1]=some Zp:=by kernel_rfl
def dk1: @pJ Tryz.prog sG 42 KB [4] d1 [] [0,1,5]=some FC:=by kernel_rfl
def dk2: @pJ Tryz.prog sG 42 KB [4] WB [] [0,1,5]=some Cb:=by kernel_rfl
def dk3: @pJ Tryz.prog sG 42 KB [4] d3 [] [0,5]=some Zo:=by kernel_rfl
noncomputable def Rx:Oper:=(PG[0]?).getD default
noncomputable def Rw:Oper:=(PG[1]?).getD default
noncomputable def Rv:Oper:=(PG[2]?).getD default
noncomputable def PR:Oper:=(PG[3]?).getD default
noncomputable def SA:Oper:=(MX[0]?).getD default
noncomputable def R':Oper:=(MX[1]?).getD default
noncomputable def Rz:Oper:=(MX[2]?).getD default
noncomputable def Ry:Oper:=(MX[3]?).getD default
def eI2:PG= #[Rx,Rw,Rv,PR]:=by kernel_rfl
def eI1:MX= #[SA,R',Rz,Ry]:=by kernel_rfl
def Yo:Rx.op= .move (.tmp 0)/\Rx.dst=some 36/\Rx.guard=none:=⟨by kernel_rfl,by kernel_rfl,by kernel_rfl⟩
def Yn:Rw.op= .move (.tmp 5)/\Rw.dst=some 37/\Rw.guard=none:=⟨by kernel_rfl,by kernel_rfl,by kernel_rfl⟩
def Ym:Rv.op= .slice 56 (.tmp 36) (some (.tmp 37)) none none/\Rv.dst=some 38/\Rv.guard=none:=⟨by kernel_rfl,by kernel_rfl,by kernel_rfl⟩
def Yl:PR.op= .call {callee:= .builtin .clear,args:= #[.tmp 38],argTypes:= #[56]}/\PR.dst=none/\PR.guard=none:=⟨by kernel_rfl,by kernel_rfl,by kernel_rfl⟩
def ZE:SA.op= .move (.tmp 0)/\SA.dst=some 39/\SA.guard=none:=⟨by kernel_rfl,by kernel_rfl,by kernel_rfl⟩
def ZD:R'.op= .move (.tmp 5)/\R'.dst=some 40/\R'.guard=none:=⟨by kernel_rfl,by kernel_rfl,by kernel_rfl⟩
def ZC:Rz.op= .slice 56 (.tmp 39) none (some (.tmp 40)) none/\Rz.dst=some 41/\Rz.guard=none:=⟨by kernel_rfl,by kernel_rfl,by kernel_rfl⟩
def ZB:Ry.op= .assign (.tmp 41)/\Ry.dst=some 4/\Ry.guard=none:=⟨by kernel_rfl,by kernel_rfl,by kernel_rfl⟩
def dD3 (w:World)(g i n cap:Nat)(hi:i<n)(hn:n<=cap)(hc:cap<=9223372036854775807):(Instr.sliceAt 56 (.slice (some ⟨g,0,none⟩) n cap) (some (.int .i64 i)) none none).run Tryz.prog w= .ok (.slice (some ⟨g,i*3,none⟩) (n - i) (cap - i)) w:=by
 have u56:=eE Tryz.underlying56;have z61:=Tryz.sizeOf61;have h1:i<=n:=by omega
 have h2:¬cap=i:=by omega
 simp[Instr.sliceAt,Instr.slice,Instr.sliceBounds,Instr.sliceBound,asIntOf,u56,z61,h1,h2,Addr.add];intro h;omega
def dD4 (w:World)(g i n cap:Nat)(hi:i<n)(hn:n<=cap)(hc:cap<=9223372036854775807):(Instr.sliceAt 56 (.slice (some ⟨g,0,none⟩) n cap) none (some (.int .i64 i)) none).run Tryz.prog w= .ok (.slice (some ⟨g,0,none⟩) i cap) w:=by
 have u56:=eE Tryz.underlying56;have z61:=Tryz.sizeOf61;have h1:i<=cap:=by omega
 simp[Instr.sliceAt,Instr.slice,Instr.sliceBounds,Instr.sliceBound,asIntOf,u56,z61,h1,Addr.add]
def eV9 (w:World)(ty g o m c:Nat)(cur:Array Value)(hm:0<m)(hg:w.heap[g]? =some (.cells cur 61 (0,0)))(Az:o+m*3<=cur.size):
  ∃zs:List Value,zs.length=m*3/\(Builtin.clear_ #[56] ty #[.slice (some ⟨g,o,none⟩) m c]).run Tryz.prog w= .ok (.tuple #[]) (w.setRow g (cur.toList.take o++zs++cur.toList.drop (o+zs.length)).toArray):=by
 have u56:=eE Tryz.underlying56;obtain⟨z,hz,gP,h1⟩:∃z,(∀w,(zeroValue 61).run Tryz.prog w= .ok z w)/\z.cells.size=3/\∀v∈z.cells.toList,v.oneCell'=true:=⟨_,Tryz.zeroValue61,by kernel_rfl,by decide⟩;have hl:(Builtin.zeroCells z.cells m).toList.length=m*3:=by simp[size_zeroCells,gP]
 have aC:=UJ Tryz.prog g o 61 (Builtin.zeroCells z.cells m).toList 0 cur w hg (by rw[hl];omega) (fun v hv=>by
  simp only[Builtin.zeroCells,Tf,jL] at hv;obtain⟨q,_,rfl⟩:=hv;refine h1 _ ?_;have hq:q % z.cells.size<z.cells.size:=Nat.mod_lt _ (by omega);rw[Nc z.cells _ hq];exact Array.mem_toList_iff.2 (Array.getElem_mem hq))
 refine⟨_,hl,?_⟩;obtain⟨k,rfl⟩:∃k,m=k+1:=⟨m - 1,by omega⟩;simp only[EZ] at aC;simp[Builtin.clear_,u56,hz,aC,Result.andThen]
def dH2:sY Tryz.prog Tryz.f102.results.toList=some [.tmp 4]:=by kernel_rfl
def RH:Tryz.prog.follows .mixedOrders=true:=by kernel_rfl
def CO [cB]{P:Program}{a:Act}{w:World}{bB:List Oper}{op:Oper}{i:Nat}{r:List Nat}{Q:Exit->Act->World->Prop}(hat:bB[i]? =some op)(hg:op.guard=none){u:Value}{w1:World}{d:Option Nat}(hd:op.dst=d)
  (hx:(execOp a.eval op).run P w= .ok (.value u) w1)(next:wpOps P bB.toArray Q r (a.put d u) w1):wpOps P bB.toArray Q (i::r) a w:=
 QO (K:=fun u' w'=>u'=u/\w'=w1) hat (by simp[Region.wanted,hg]) (Gk hx ⟨rfl,rfl⟩) fun u' w' ⟨h1,h2⟩=>by subst h1 h2;rw[hd];exact next
set_option maxHeartbeats 4000000 in
set_option maxRecDepth 100000 in
def eS9 (l:List Lg)(bT:l.length<=1000): @Pw sG Tryz.prog 102 0 61 true false (aB Lg.v l) [.f (.func 103) [] []] (aB Lg.v (l.filter nz)):=by
 letI:cB:=sG
 intro S w aD u vs us hS hG dA how hk cK hr oD pZ _;refine LK Tryz.func102 eY7 ?_;have hb:dR u=u.ownBlock:=(Gj how).symm;have hF:=FI.start_own (P:=Tryz.prog) (nt:=Tryz.f102.ntmps) (keep:=KB) (pos:=0) dA hG hS ⟨vs,how,hk,cK,hr⟩ (fun g hg=>oD g (by rw[<-hb];exact hg)) (pZ.reps (by rfl)) (by rfl) (by rw[bI8];decide) (fun n hn=>by
  have kC:n<2:=hn
  match n,kC with
  |0,_=>simpa using kp0.1
  |1,_=>simpa using kp0.2.1)
 rw[bI8] at hF⊢;refine nW (zM OK RH d0 [] [0,1] Zp dk0 _ .n [(0,.ow 61 (aB Lg.v l)),(1,.f (.func 103) [] []),(4,.ow 61 [])] (by simp[Zp,kR,lC]) _ w hF _ fun a1 w1 bZ=> ?_);obtain⟨z,hz,gC⟩:=eX8 (X:=fun _ _=>none) cX3 aV2 l bT;refine nW (zM OK RH d1 [] [0,1,5] FC dk1 _ .n [(0,.ow 61 (aB Lg.v l)),(1,.f (.func 103) [] []),(4,.ow 61 []),(5,.i .i64 z)] (by simp[FC,hz]) _ w1 bZ _ fun a2 w2 wU=> ?_);rcases gC with⟨rfl,eG⟩|⟨i0,wQ,rfl,ha,hbef⟩;refine nW (zM OK RH WB [] [0,1,5] Cb dk2 _ .r [(4,.ow 61 (aB Lg.v l))] (by simp[Cb]) _ w2 wU _ fun a' w' dI=> ?_);have fC:l.filter nz=l:=X2.2 fun y hy=>by simpa[nz] using eG y hy
 rw[fC];obtain⟨hd,v,bY,Im,cE,bK,⟨⟨dU,Gv,gD,wS,mQ⟩,kC⟩⟩:=bD6 (P:=Tryz.prog) dH2 dI (y:= .ow 61 (aB Lg.v l)) (fun ys e=>by cases e) (by simp[VD]);refine⟨hd,v,bY,v,v,dU,rfl,⟨dI.below.os,dI.below.tape,dI.below.output,dI.below.size,fun k hk bM=>dI.kept k ⟨hk,fun e=>bM (by rw[<-hb,e])⟩⟩,fun g hg=> ?_,Gv,gD,wS,Y9 mQ (Ze l),by simp⟩;rw[Gj Gv] at hg;rw[<-hb];by_cases hgu:dR u=some g;exact .inl hgu;refine .inr ?_;rcases JN g w.heap.size with bE|FY;exact absurd (cE g ⟨bE,hgu⟩) (kC g hg);exact FY
 ·refine nW (zM OK RH WB [] [0,1,5] Cb dk2 _ .n [(0,.ow 61 (aB Lg.v l)),(1,.f (.func 103) [] []),(4,.ow 61 []),(5,.i .i64 i0),(12,.b false)] (by simp[Cb]) _ w2 wU _ fun a3 w3 rG=> ?_);obtain⟨Y,i,cW,hY,hi,Br⟩:=eD1 l bT i0 wQ ha hbef;have hw:=bC ((i0:Int)+1) (by omega);refine nW (zM OK RH d3 [] [0,5] Zo dk3 _ .n [(0,.ow 61 (aB Lg.v Y)),(5,.i .i64 i)] (by simp[Zo,bA,hw,cW]) _ w3 rG _ fun a4 w4 AM=> ?_);obtain⟨Im,cE,bK,hE⟩:=AM.ents;obtain⟨u0,AE,⟨ws,nN,qM,sA,tZ⟩,hng0⟩:=hE.ent 0 (.ow 61 (aB Lg.v Y)) rfl;obtain⟨u5,hu5,he5⟩:=hE.ent 5 (.i .i64 i) rfl;have hu5':u5= .int .i64 i:=by
   have he5':aP Im w4 u5 (.i .i64 i):=he5;cases he5';rfl
  subst hu5';have hbu:=Gj nN;obtain⟨hwl,hvd⟩:=nN;rw[uJ] at hvd hwl;rcases hvd with⟨_,h0⟩|⟨g,cap,cur,rfl,sF,hgw,rF,tB,lG,htw⟩;omega;have bR2:cap<=9223372036854775807:=by unfold maxLen at tB;omega
  have hsz4:a4.tmps.size=42:=AM.size;have hdf:a4.defers=[]:=AM.defers;rw[Fu] at lG htw hwl qM;have hu0':tm a4 0=some (.slice (some ⟨g,0,none⟩) Y.length cap):=AE;have hu5':tm a4 5=some (.int .i64 i):=hu5;have MM:Y.length<=cap:=rF;have hiY:i<Y.length:=by omega
  have put_sz:∀(a:Act) (d:Option Nat) (u:Value),(a.put d u).tmps.size=a.tmps.size:=fun a d u=>by cases d<;>simp[Act.put]
  have AC:∀(a:Act) (d:Option Nat) (u:Value),(a.put d u).defers=a.defers:=fun a d u=>by cases d<;>rfl
  refine nW (yX ?_);rw[eI2];show wpOps Tryz.prog [Rx,Rw,Rv,PR].toArray _ [0,1,2,3] a4 w4;refine CO rfl Yo.2.2 Yo.2.1 (u:= .slice (some ⟨g,0,none⟩) Y.length cap) (w1:=w4) (by simp[execOp,Yo.1,eW hu0']) ?_;generalize Cu:a4.put (some 36) (.slice (some ⟨g,0,none⟩) Y.length cap)=A1;have s1:A1.tmps.size=42:=by rw[<-Cu,put_sz,hsz4]
  have d1:A1.defers=[]:=by rw[<-Cu,AC,hdf]
  have t1:∀n,tm A1 n=if n=36 then some (.slice (some ⟨g,0,none⟩) Y.length cap) else tm a4 n:=fun n=>by rw[<-Cu];exact jF (by rw[hsz4];decide) n
  refine CO rfl Yn.2.2 Yn.2.1 (u:= .int .i64 i) (w1:=w4) (by simp[execOp,Yn.1,eW ((t1 5).trans hu5')]) ?_;generalize Ct:A1.put (some 37) (.int .i64 i)=A2;have s2:A2.tmps.size=42:=by rw[<-Ct,put_sz,s1]
  have d2:A2.defers=[]:=by rw[<-Ct,AC,d1]
  have t2:∀n,tm A2 n=if n=37 then some (.int .i64 i) else tm A1 n:=fun n=>by rw[<-Ct];exact jF (by rw[s1];decide) n
  have e36:A2.eval (.tmp 36)= .slice (some ⟨g,0,none⟩) Y.length cap:=eW ((t2 36).trans (t1 36));have e37:A2.eval (.tmp 37)= .int .i64 i:=eW (t2 37);refine CO rfl Ym.2.2 Ym.2.1 (u:= .slice (some ⟨g,i*3,none⟩) (Y.length - i) (cap - i)) (w1:=w4) (by simp[execOp,Ym.1,e36,e37,dD3 w4 g i Y.length cap hiY MM bR2]) ?_;generalize Cs:A2.put (some 38) (.slice (some ⟨g,i*3,none⟩) (Y.length - i) (cap - i))=A3;have s3:A3.tmps.size=42:=by rw[<-Cs,put_sz,s2]
  have d3':A3.defers=[]:=by rw[<-Cs,AC,d2]
  have t3:∀n,tm A3 n=if n=38 then some (.slice (some ⟨g,i*3,none⟩) (Y.length - i) (cap - i)) else tm A2 n:=fun n=>by rw[<-Cs];exact jF (by rw[s2];decide) n
  have Rt:A3.eval (.tmp 38)= .slice (some ⟨g,i*3,none⟩) (Y.length - i) (cap - i):=eW (t3 38);obtain⟨zs,hzl,hclr⟩:=eV9 w4 PR.type g (i*3) (Y.length - i) (cap - i) cur (by omega) hgw (by rw[lG,<-D1,show i+(Y.length - i)=Y.length from by omega];exact yR _ MM);generalize EF:(cur.toList.take (i*3)++zs++cur.toList.drop (i*3+zs.length)).toArray=mI at hclr;refine CO rfl Yl.2.2 Yl.2.1 (u:= .tuple #[]) (w1:=w4.setRow g mI) (by
   simp only[execOp,Yl.1,resolve,invoke,builtin,dX,eU,dQ,List.map_toArray,fF,oF,Rt,hclr]) ?_
  have hA4:A3.put none (.tuple #[])=A3:=rfl;rw[hA4];have f0:tm A3 0=some (.slice (some ⟨g,0,none⟩) Y.length cap):=((t3 0).trans (t2 0)).trans ((t1 0).trans hu0');have f5:tm A3 5=some (.int .i64 i):=((t3 5).trans (t2 5)).trans ((t1 5).trans hu5');clear t1 t2 t3 Cu Ct Cs e36 e37 Rt hclr;show(Code.seq (.region 12 MX false) .ret).wp _ _ A3 (w4.setRow g mI);refine nW (yX ?_);rw[eI1];show wpOps Tryz.prog [SA,R',Rz,Ry].toArray _ [0,1,2,3] A3 _;refine CO rfl ZE.2.2 ZE.2.1 (u:= .slice (some ⟨g,0,none⟩) Y.length cap) (w1:=w4.setRow g mI) (by simp[execOp,ZE.1,eW f0]) ?_;generalize Cu:A3.put (some 39) (.slice (some ⟨g,0,none⟩) Y.length cap)=B1;have z1:B1.tmps.size=42:=by rw[<-Cu,put_sz,s3]
  have v1:B1.defers=[]:=by rw[<-Cu,AC,d3']
  have t1:∀n,tm B1 n=if n=39 then some (.slice (some ⟨g,0,none⟩) Y.length cap) else tm A3 n:=fun n=>by rw[<-Cu];exact jF (by rw[s3];decide) n
  refine CO rfl ZD.2.2 ZD.2.1 (u:= .int .i64 i) (w1:=w4.setRow g mI) (by simp[execOp,ZD.1,eW ((t1 5).trans f5)]) ?_;generalize Ct:B1.put (some 40) (.int .i64 i)=B2;have z2:B2.tmps.size=42:=by rw[<-Ct,put_sz,z1]
  have v2:B2.defers=[]:=by rw[<-Ct,AC,v1]
  have t2:∀n,tm B2 n=if n=40 then some (.int .i64 i) else tm B1 n:=fun n=>by rw[<-Ct];exact jF (by rw[z1];decide) n
  have e39:B2.eval (.tmp 39)= .slice (some ⟨g,0,none⟩) Y.length cap:=eW ((t2 39).trans (t1 39));have e40:B2.eval (.tmp 40)= .int .i64 i:=eW (t2 40);refine CO rfl ZC.2.2 ZC.2.1 (u:= .slice (some ⟨g,0,none⟩) i cap) (w1:=w4.setRow g mI) (by simp[execOp,ZC.1,e39,e40,dD4 _ g i Y.length cap hiY MM bR2]) ?_;generalize Cs:B2.put (some 41) (.slice (some ⟨g,0,none⟩) i cap)=B3;have z3:B3.tmps.size=42:=by rw[<-Cs,put_sz,z2]
  have v3:B3.defers=[]:=by rw[<-Cs,AC,v2]
  have e41:B3.eval (.tmp 41)= .slice (some ⟨g,0,none⟩) i cap:=eW (by rw[<-Cs];exact(jF (by rw[z2];decide) 41).trans (aY rfl));refine CO rfl ZB.2.2 ZB.2.1 (u:= .slice (some ⟨g,0,none⟩) i cap) (w1:=w4.setRow g mI) (by simp[execOp,ZB.1,e41]) ?_;generalize hA4:B3.put (some 4) (.slice (some ⟨g,0,none⟩) i cap)=B4;have v4:B4.defers=[]:=by rw[<-hA4,AC,v3]
  have f4:B4.tmps[4]? =some (.slice (some ⟨g,0,none⟩) i cap):=by
   have:tm B4 4=some (.slice (some ⟨g,0,none⟩) i cap):=by rw[<-hA4];exact(jF (by rw[z3];decide) 4).trans (aY rfl)
   exact this
  show Code.ret.wp _ _ B4 (w4.setRow g mI);refine wp_ret ?_;have hng1:¬Im g:=hng0 g (by rw[<-hbu];rfl);have hlf:(aB Lg.v (l.filter nz)).length=i:=by rw[uJ,<-Br,gO];omega
  have Rb:aB Lg.v (l.filter nz)=(aB Lg.v Y).take i:=by rw[<-Br];simp[aB,N9]
  have Ou:mI.size=cap*3:=by
   rw[<-EF];have h1:i*3<=cap*3:=yR _ (by omega);have h2:i*3+(Y.length - i)*3<=cap*3:=by rw[<-D1];exact yR _ (by omega)
   simp only[rL,kH,gO,oW,tJ,hzl,lG];omega
  have IW:mI.toList.take (i*3)=ws.take (i*3):=by have h1:i*3<=Y.length*3:=yR _ (by omega);have h2:i*3<=cap*3:=yR _ (by omega);rw[<-EF,<-htw,QK,Na h1];simp only[AZ];rw[H0 (by rw[gO,tJ,lG];omega),QK,Nat.min_self]
  refine⟨v4,.slice (some ⟨g,0,none⟩) i cap,by simp[results,f4,vP],.slice (some ⟨g,0,none⟩) i cap,.slice (some ⟨g,0,none⟩) i cap,ws.take (i*3),rfl,⟨AM.below.os,AM.below.tape,AM.below.output,by rw[show(w4.setRow g mI).heap.size=w4.heap.size from by simp[World.setRow]];exact AM.below.size,fun k hk bM=> ?_⟩,fun g' jR=> ?_,?_,fun x hx=> ?_,fun x hx=> ?_,?_,by simp⟩;have hSk:k<w.heap.size/\dR u≠some k:=⟨hk,fun e=>bM (by rw[<-hb,e])⟩;have hkg:k≠g:=fun e=>hng1 (cE g (e▸hSk));rw[yW w4 g k mI hkg];exact AM.kept k hSk;have hgg:g=g':=by simpa[Value.ownBlock] using jR
  subst hgg;rw[<-hb];by_cases hgu:dR u=some g;exact .inl hgu;refine .inr ?_;rcases JN g w.heap.size with bE|FY;exact absurd (cE g ⟨bE,hgu⟩) hng1;exact FY;rw[hlf,Fu];refine⟨by rw[gO,hwl];have:=yR 3 (Nat.le_of_lt hiY);omega,.inr ⟨g,cap,mI,rfl,sF,yV w4 g cur mI 61 _ hgw,by omega,tB,Ou,IW⟩⟩;rw[Rb] at hx;rw[Fu];exact qM x (qF hx);rw[Rb,<-I8 i qM] at hx;exact sA x (qF hx);refine Y9 (S:=Im) (w:=w4) ?_ (Ze _);rw[Rb,<-I8 i qM];exact tZ.take _
def eT0 (es xs bW:List V)(h:M1 103 es xs=some bW):Pw Tryz.prog 102 0 61 true false es xs bW:=by unfold M1 at h;split at h;rename_i g;split at h;rename_i hg;subst hg;simp only[bL] at h;obtain⟨l,hl,h⟩:=h;split at h;rename_i bT;cases h;rw[Zf hl];exact eS9 l bT;cases h;cases h;cases h
end Go.Proofs.YtdlpbedneamebaaGreatDoor
namespace Go.Proofs.YtdlpbedneamebaaGreatDoor
open Go.VM
def RF:Ko Tryz.prog:=by
 intro f mu hl;have hc:(f=97/\mu=⟨122,true,false,AD 122,0⟩)\/(f=101/\mu=⟨61,true,false,M5,0⟩)\/(f=102/\mu=⟨61,true,false,M1 103,0⟩)\/(f=150/\mu=⟨61,true,false,AD 61,0⟩)\/(f=184/\mu=⟨3,false,false,OQ,0⟩):=by simp only[cB.muts,List.lookup] at hl;split at hl;rename_i h;exact .inl ⟨by simpa using h,(uR hl).symm⟩;split at hl;rename_i h;exact .inr (.inl ⟨by simpa using h,(uR hl).symm⟩);split at hl;rename_i h;exact .inr (.inr (.inl ⟨by simpa using h,(uR hl).symm⟩));split at hl;rename_i h;exact .inr (.inr (.inr (.inl ⟨by simpa using h,(uR hl).symm⟩)));split at hl;rename_i h;exact .inr (.inr (.inr (.inr ⟨by simpa using h,(uR hl).symm⟩)));cases hl
 rcases hc with⟨rfl,rfl⟩|⟨rfl,rfl⟩|⟨rfl,rfl⟩|⟨rfl,rfl⟩|⟨rfl,rfl⟩;exact⟨by kernel_rfl,fun es xs bW h=>(eG2 es xs bW h).p⟩;exact⟨by kernel_rfl,fun es xs bW h=>eU2 es xs bW h⟩;exact⟨by kernel_rfl,fun es xs bW h=>eT0 es xs bW h⟩;exact⟨by kernel_rfl,fun es xs bW h=>(bQ3 es xs bW h).p⟩;exact⟨by kernel_rfl,fun es xs bW h=>(dG4 (e:=3) Tryz.lays112 (by kernel_rfl) es xs bW h).p⟩
end Go.Proofs.YtdlpbedneamebaaGreatDoor
namespace Go.Proofs.YtdlpbedneamebaaGreatDoor
open Go.VM Go.RowKit
noncomputable def aN5:Code:=Tryz.f11.body.getD .skip
noncomputable def Yf:Array Oper:=match aN5 with | .seq (.region _ x _) _=>x|_=> #[]
noncomputable def VH:Array Oper:=match aN5 with | .seq _ (.seq (.region _ x _) _)=>x|_=> #[]
noncomputable def OR:Code:=match aN5 with | .seq _ (.seq _ r)=>r|_=> .skip
def bZ8:Tryz.f11.body=some (.seq (.region 0 Yf false) (.seq (.region 1 VH false) OR)):=by kernel_rfl
def z22:List V:=[.l [],.l [],.l [],.i .i64 0,.i .i64 0,.i .i64 0,.i .i64 0,.i .i64 0,.i .i64 0,.i .i64 0,.i .i64 0,.i .i64 0,.i .i64 0,.i .i64 0,.i .i64 0,.i .i64 0,.i .i64 0,.l [],.l [],.l [],.l [],.l []]
def HU:List V:=[.i .i64 0,.i .i64 0,.i .i64 0,.i .i64 0,.i .i64 0,.i .i64 0,.s [],.s [],.l [],.i .u64 0]
def ss0:List St:=[GX,vX,.alo 4 z22,Dk 5 aL []]
def aU8:n9 Tryz.prog Yf.toList=some ss0:=by kernel_rfl
def d2:DC:= .reg [.q 9 (.ld 10 true) [.t 3],.call (some 10) 24 [.t 9],.sto 1 (.t 5) (.t 10)]
def d4:DC:= .reg [.fa 14 19 1 (.t 2),.q 15 (.ld 1 false) [.t 14],.fa 16 6 1 (.t 3),.q 17 (.ld 1 false) [.t 16],.call (some 18) 25 [.t 15,.t 17],.mv 13 (.t 18),.ext 19 0 13,.ext 20 1 13,.alo 6 [.i .i64 0,.i .i64 0,.i .i64 0,.i .i64 0,.i .i64 0,.i .i64 0,.s [],.s [],.l [],.i .u64 0],.sto 10 (.t 6) (.t 19),.as 7 (.t 20)]
def d6:DC:= .reg [.q 22 (.ld 22 true) [.t 4],.sto 22 (.t 4) (.t 22),.sto 1 (.t 5) (.c (.i .i64 12))]
def d7:DC:= .reg [.q 23 (.ld 22 true) [.t 2],.q 24 (.ld 10 true) [.t 3],.call (some 25) 26 [.t 23,.t 24],.sto 1 (.t 5) (.t 25)]
def d9:DC:= .reg [.q 28 (.ld 22 true) [.t 2],.q 29 (.ld 10 true) [.t 3],.call (some 30) 27 [.t 28,.t 29],.sto 1 (.t 5) (.t 30)]
def M3:DC:= .reg [.q 33 (.ld 22 true) [.t 2],.sto 22 (.t 4) (.t 33)]
def M2:DC:= .reg [.fa 35 19 1 (.t 2),.q 36 (.ld 1 false) [.t 35],.q 37 (.ld 10 true) [.t 3],.call (some 38) 28 [.t 36,.t 37],.mv 34 (.t 38),.ext 39 0 34,.ext 40 1 34,.fa 41 19 1 (.t 4),.sto 1 (.t 41) (.t 39),.sto 1 (.t 5) (.t 40)]
def Ic (n:Nat):DC:= .seq (.reg [.q n (.ld 1 false) [.t 5],.q (n+1) (.bin .neq) [.t n,.c (.i .i64 0)]]) (.cond (.sl (n+1)) .ret .skip)
def AT:DC:= .seq (.seq d2 (Ic 11)) (.seq (.seq d4 (.seq (.reg [.mv 21 (.t 7)]) (.cond (.sl 21) (.seq d6 .ret) .skip))) (.seq (.seq d7 (Ic 26)) (.seq (.seq d9 (Ic 31)) (.seq M3 (.seq M2 .ret)))))
def bX1:zO Tryz.prog 42 [2,4,5] OR=some AT:=by kernel_rfl
def aJ2:aQ:=⟨3,[],iW 14 (gH (v7 (Ld cI) bD) (v7 (sO Hm) (uZ (sO (Df 19)) dM))) 14 (nL (nX 15 cQ [cQ,cQ,aL,aL,aL,aL,aL,aL,aL,aL,aL,aL,aL,aL,aL,aL,cQ,cQ,cQ,cQ,cQ] [] []) [eV 22 1 15] [15])⟩
def eU1:oU Tryz.prog Tryz.f23=some aJ2:=by kernel_rfl
noncomputable def dN5:Oper:=(VH[0]?).getD default
noncomputable def dN4:Oper:=(VH[1]?).getD default
def bE5:VH= #[dN5,dN4]:=by kernel_rfl
def Jw:Tryz.f11.ntmps=42:=Tryz.ntmps11
def bD8:sY Tryz.prog Tryz.f11.results.toList=some [.cell 4 22 true,.cell 5 1 false]:=by kernel_rfl
def bO0:((Yf.toList.flatMap fun o=>o.dst.toList).filter fun t=> !(List.range 42).contains t)=[]:=by kernel_rfl
def Sr {P:Program}{Im:Nat->Prop}{w:World}{aD:Nat}{aA:aG}{T:Tm}(hE:d8 P Im w aD aA T)(gF:∀b,Im b->b<w.heap.size){n:Nat}{cs:List V}(h:aF n aA=some (.bx cs)):∃u,T n=some u/\aP (dS w) w u (.r cs):=by
 obtain⟨u,hu,he⟩:=hE.ent n _ h;obtain⟨⟨g,vs,ty,rfl,hb,hg,hc,hr⟩,_⟩:=he;have bE:g<w.heap.size:=(j6.1 hg).1;have dG:∀(j:Nat) u,vs[j]? =some u->w.cell? ((⟨g,0,none⟩:Addr).add j)=some u:=fun j u hj=>by rw[add_zero];simp[World.cell?,hg,hj]
 exact⟨_,hu,.r _ cs vs bE hc hr.1 dG fun j u x hu hx=>(hr.2 j u x hu hx).move gF fun _ _=>rfl⟩
section
variable {o:aU} {b0 b1 b2 b3 b4 b5 b6 b7 b8 b9 b10 b11 b12 b13 b14 b15 b16 b17 b18 b20 b21 e0 e1 e2 e3 e4 e5 e7 e8 e9:V} {j0 js:List V} {ky:List UInt8}
set_option maxHeartbeats 8000000 in
def dE6 (cb0:V.cell b0=true)(cb1:V.cell b1=true)(cb2:V.cell b2=true)(cb3:V.cell b3=true)(cb4:V.cell b4=true)(cb5:V.cell b5=true)(cb6:V.cell b6=true)(cb7:V.cell b7=true)(cb8:V.cell b8=true)(cb9:V.cell b9=true)(cb10:V.cell b10=true)(cb11:V.cell b11=true)(cb12:V.cell b12=true)(cb13:V.cell b13=true)(cb14:V.cell b14=true)(cb15:V.cell b15=true)(cb16:V.cell b16=true)(cb17:V.cell b17=true)(cb18:V.cell b18=true)(cb20:V.cell b20=true)(cb21:V.cell b21=true)(nD:o 24 [.a [e0,e1,e2,e3,e4,e5,.s ky,e7,e8,e9]]=some (.i .i64 0))(mT:o 25 [.l j0,.s ky]=some (.t [.a HU,.b false]))(CB:o 26 [.a [b0,b1,b2,b3,b4,b5,b6,b7,b8,b9,b10,b11,b12,b13,b14,b15,b16,b17,b18,.l j0,b20,b21],.a [e0,e1,e2,e3,e4,e5,.s ky,e7,e8,e9]]=some (.i .i64 0))(BE:o 27 [.a [b0,b1,b2,b3,b4,b5,b6,b7,b8,b9,b10,b11,b12,b13,b14,b15,b16,b17,b18,.l j0,b20,b21],.a [e0,e1,e2,e3,e4,e5,.s ky,e7,e8,e9]]=some (.i .i64 0))(uE:o 28 [.l j0,.a [e0,e1,e2,e3,e4,e5,.s ky,e7,e8,e9]]=some (.t [.ow 59 js,.i .i64 0]))(A C:V):
  ∃aN,sH o AT [(0,A),(1,C),(2,.bx [b0,b1,b2,b3,b4,b5,b6,b7,b8,b9,b10,b11,b12,b13,b14,b15,b16,b17,b18,.l j0,b20,b21]),(3,.bx [e0,e1,e2,e3,e4,e5,.s ky,e7,e8,e9]),(4,.bx z22),(5,.bx [.i .i64 0]),(8,.ud)]=some (.r,aN)/\aF 2 aN=some (.bx [b0,b1,b2,b3,b4,b5,b6,b7,b8,b9,b10,b11,b12,b13,b14,b15,b16,b17,b18,.l j0,b20,b21])/\aF 4 aN=some (.bx [b0,b1,b2,b3,b4,b5,b6,b7,b8,b9,b10,b11,b12,b13,b14,b15,b16,b17,b18,.l js,b20,b21])/\aF 5 aN=some (.bx [.i .i64 0]):=by
 refine⟨_,(by
  simp[sH,AT,Ic,d2,d4,d6,d7,d9,M3,M2,nD,mT,CB,BE,uE,HU,z22,cb0,cb1,cb2,cb3,cb4,cb5,cb6,cb7,cb8,cb9,cb10,cb11,cb12,cb13,cb14,cb15,cb16,cb17,cb18,cb20,cb21];rfl),by rfl,by rfl,by rfl⟩
def dE5 (hjs:js.length=j0.length+1)(hm:j0.length<=4096):BN o aJ2 [.r [.i .i64 0],.r [b0,b1,b2,b3,b4,b5,b6,b7,b8,b9,b10,b11,b12,b13,b14,b15,b16,b17,b18,.l js,b20,b21],.r [b0,b1,b2,b3,b4,b5,b6,b7,b8,b9,b10,b11,b12,b13,b14,b15,b16,b17,b18,.l j0,b20,b21]]=some (.t []):=by rw[bZ6 _ _ _ rfl rfl];have hw:=bC ((j0.length:Int)+1) (by omega);simp[aJ2,kR,hjs,hw]
end
end Go.Proofs.YtdlpbedneamebaaGreatDoor
