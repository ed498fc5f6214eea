/-
A part of the proof of the last text.
-/
import Derived.Test.YtdlpbedneamebaaGreatDoorTS
import Derived.Shelf.Spec.BitsCarry
set_option linter.all false
namespace Go.Proofs.YtdlpbedneamebaaGreatDoor
open Go.VM Go.RowKit Go.Shelf
def T0 (x y:Int)(hx:0<=x)(hy:0<=y)(w:World):(callFunc 281 #[.int .u64 x,.int .u64 y,.int .u64 0]).run Tryz.prog w= .ok (.value (.tuple #[.int .u64 ((x+y) % 18446744073709551616),.int .u64 ((x+y) / 18446744073709551616)])) w:=by rw[run_callFunc_extern Tryz.func281 (by kernel_rfl) (by kernel_rfl) (by kernel_rfl) (e:=add64Entry) (by kernel_rfl),run_add64 x y 0 hx hy (by omega) (by omega)];simp only[Result.andThen,Int.add_zero]
def cF4 (x:Int):0<=bits BinOp.xor .u64 IntKind.u64.max x:=by show 0<=IntKind.u64.wrap _;rw[IntKind.wrap_u64];omega
def bJ5 (h l:Int):Int:=wrap64 (IntKind.u64.wrap (IntKind.u64.wrap (bits BinOp.xor .i64 (-1) h)+(bits BinOp.xor .u64 IntKind.u64.max l+1) / 18446744073709551616))
def ZU (l:Int):Int:=(bits BinOp.xor .u64 IntKind.u64.max l+1) % 18446744073709551616
set_option maxHeartbeats 6400000 in
set_option maxRecDepth 100000 in
def dR9 (h l:Int)(w:World):Calls Tryz.prog 296 #[.agg #[.int .i64 h,.int .u64 l]] w fun e w'=>e= .returned (.agg #[.int .i64 (bJ5 h l),.int .u64 (ZU l)])/\Below w.heap.size w w':=by
 have hx:=cF4 l
 go_enter Tryz.func296,Tryz.ntmps296
 go_wp2_with (simp only[T0 _ 1 hx (by decide)])
 simp[bodyPost,results,Tryz.results296,go_sem];exact⟨⟨rfl,rfl⟩,((cZ _ w).alloc (dD _) _).alloc (by simp) _⟩
def aZ8 (x y:Int)(hx:0<=x)(hy:0<=y)(w:World):(callFunc 280 #[.int .u64 x,.int .u64 y,.int .u64 0]).run Tryz.prog w= .ok (.value (.tuple #[.int .u64 (((x.toNat+18446744073709551616 - y.toNat) % 18446744073709551616:Nat):Int),.int .u64 (if x<y then 1 else 0)])) w:=by rw[run_callFunc_extern Tryz.func280 (by kernel_rfl) (by kernel_rfl) (by kernel_rfl) (e:=sub64Entry) (by kernel_rfl)];obtain⟨X,rfl⟩:=Int.eq_ofNat_of_zero_le hx;obtain⟨Y,rfl⟩:=Int.eq_ofNat_of_zero_le hy;rw[show(Value.int .u64 0)= .int .u64 ((0:Nat):Int) from rfl,run_sub64 X Y 0 (by omega)];simp only[Result.andThen,LD,QM,EZ];by_cases c:X<Y;rw[aY c,aY (by omega)];rfl;rw[aK c,aK (by omega)];rfl
def T1 (a b c d:Int):Int:=wrap64 (wrap64 (a+c)+wrap64 ((b+d) / 18446744073709551616))
def Pt (a b c d:Int):Prop:=(a<0↔c<0)/\¬(T1 a b c d<0↔c<0)
instance (a b c d:Int):Decidable (Pt a b c d):=by unfold Pt;infer_instance
def addR (a b c d:Int):Int×Int×Int:=if Pt a b c d then(0,0,6) else(T1 a b c d,(b+d) % 18446744073709551616,0)
set_option maxHeartbeats 6400000 in
set_option maxRecDepth 100000 in
def fC5 (a b c d:Int)(hb:0<=b)(hd:0<=d)(w:World):Calls Tryz.prog 262 #[.agg #[.int .i64 a,.int .u64 b],.agg #[.int .i64 c,.int .u64 d]] w fun e w'=>e= .returned (.tuple #[.agg #[.int .i64 (addR a b c d).1,.int .u64 (addR a b c d).2.1],.int .i64 (addR a b c d).2.2])/\Below w.heap.size w w':=by
 have hB:∀o1 o2 o3,Below w.heap.size w (((w.alloc o1).alloc o2).alloc o3):=fun o1 o2 o3=>(((cZ _ w).alloc (dD _) _).alloc (by simp) _).alloc (by simp;omega) _;by_cases pT:Pt a b c d
 ·rw[show addR a b c d=(0,0,6) from aY pT];unfold Pt T1 at pT
  go_enter Tryz.func262,Tryz.ntmps262
  go_wp2_with (simp only[T0 b d hb hd])
  all_goals simp[bodyPost,results,Tryz.results262,go_sem]
  all_goals generalize wrap64 (wrap64 (a+c)+wrap64 ((b+d) / 18446744073709551616))=H at*
  all_goals first |exact hB _ _ _|(exfalso;by_cases p1:a<0<;>by_cases p2:c<0<;>by_cases p3:H<0<;>simp_all)
 ·rw[show addR a b c d=(T1 a b c d,(b+d) % 18446744073709551616,0) from aK pT];unfold Pt at pT;unfold T1 at pT⊢
  go_enter Tryz.func262,Tryz.ntmps262
  go_wp2_with (simp only[T0 b d hb hd])
  all_goals simp[bodyPost,results,Tryz.results262,go_sem]
  all_goals generalize wrap64 (wrap64 (a+c)+wrap64 ((b+d) / 18446744073709551616))=H at*
  all_goals first |exact hB _ _ _|(exfalso;by_cases p1:a<0<;>by_cases p2:c<0<;>by_cases p3:H<0<;>simp_all)
def Qp (a b c d:Int):Int:=wrap64 (wrap64 (a - c) - wrap64 (if b<d then 1 else 0))
def OH (a b c d:Int):Prop:=¬(a<0↔c<0)/\¬(Qp a b c d<0↔a<0)
instance (a b c d:Int):Decidable (OH a b c d):=by unfold OH;infer_instance
def G9 (a b c d:Int):Int×Int×Int:=if OH a b c d then(0,0,6) else(Qp a b c d,(((b.toNat+18446744073709551616 - d.toNat) % 18446744073709551616:Nat):Int),0)
set_option maxHeartbeats 6400000 in
set_option maxRecDepth 100000 in
def cY9 (a b c d:Int)(hb:0<=b)(hd:0<=d)(w:World):Calls Tryz.prog 260 #[.agg #[.int .i64 a,.int .u64 b],.agg #[.int .i64 c,.int .u64 d]] w fun e w'=>e= .returned (.tuple #[.agg #[.int .i64 (G9 a b c d).1,.int .u64 (G9 a b c d).2.1],.int .i64 (G9 a b c d).2.2])/\Below w.heap.size w w':=by
 have hB:∀o1 o2 o3,Below w.heap.size w (((w.alloc o1).alloc o2).alloc o3):=fun o1 o2 o3=>(((cZ _ w).alloc (dD _) _).alloc (by simp) _).alloc (by simp;omega) _;by_cases pT:OH a b c d
 ·rw[show G9 a b c d=(0,0,6) from aY pT];have hs:=fun w=>aZ8 b d hb hd w;unfold OH Qp at pT;generalize (((b.toNat+18446744073709551616 - d.toNat) % 18446744073709551616:Nat):Int)=lo at hs⊢;generalize (if b<d then(1:Int) else 0)=bor at hs pT⊢
  go_enter Tryz.func260,Tryz.ntmps260
  go_wp2_with (simp only[hs])
  all_goals simp[bodyPost,results,Tryz.results260,go_sem]
  all_goals generalize wrap64 (wrap64 (a - c) - wrap64 bor)=H at*
  all_goals first |exact hB _ _ _|(exfalso;by_cases p1:a<0<;>by_cases p2:c<0<;>by_cases p3:H<0<;>simp_all)
 ·rw[show G9 a b c d=(Qp a b c d,(((b.toNat+18446744073709551616 - d.toNat) % 18446744073709551616:Nat):Int),0) from aK pT];have hs:=fun w=>aZ8 b d hb hd w;unfold OH at pT;unfold Qp at pT⊢;generalize (((b.toNat+18446744073709551616 - d.toNat) % 18446744073709551616:Nat):Int)=lo at hs⊢;generalize (if b<d then(1:Int) else 0)=bor at hs pT⊢
  go_enter Tryz.func260,Tryz.ntmps260
  go_wp2_with (simp only[hs])
  all_goals simp[bodyPost,results,Tryz.results260,go_sem]
  all_goals generalize wrap64 (wrap64 (a - c) - wrap64 bor)=H at*
  all_goals first |exact hB _ _ _|(exfalso;by_cases p1:a<0<;>by_cases p2:c<0<;>by_cases p3:H<0<;>simp_all)
def RM (x:Int):Int:=bits BinOp.and .u64 x 4294967295
def bJ9 (a b:Int):Int:=IntKind.u64.wrap (IntKind.u64.wrap (a / 4294967296*RM b)+IntKind.u64.wrap (RM a*RM b) / 4294967296)
def V0 (a b:Int):Int:=IntKind.u64.wrap (IntKind.u64.wrap (IntKind.u64.wrap (a / 4294967296*(b / 4294967296))+bJ9 a b / 4294967296)+IntKind.u64.wrap (RM (bJ9 a b)+IntKind.u64.wrap (RM a*(b / 4294967296))) / 4294967296)
def Xe (x:Int):0<=IntKind.u64.wrap x:=by rw[IntKind.wrap_u64];omega
set_option maxHeartbeats 6400000 in
set_option maxRecDepth 100000 in
def bJ8 (a b:Int)(w:World):Calls Tryz.prog 294 #[.int .u64 a,.int .u64 b] w fun e w'=>e= .returned (.tuple #[.int .u64 (V0 a b),.int .u64 (IntKind.u64.wrap (a*b))])/\w'=w:=by
 go_enter Tryz.func294,Tryz.ntmps294
 go_wp2
 simp[bodyPost,results,Tryz.results294,go_sem];exact rfl
def aV3 (b n m:Int):Int:=(IntKind.u64.wrap (b*n)+m) % 18446744073709551616
def N' (b n m:Int):Int:=IntKind.u64.wrap (V0 b n+(IntKind.u64.wrap (b*n)+m) / 18446744073709551616)
def aV4 (a b n m:Int):Int:=(IntKind.u64.wrap (a*n)+N' b n m) % 18446744073709551616
def Ug (a b n m:Int):Bool:=decide (V0 a n=0)&&decide ((IntKind.u64.wrap (a*n)+N' b n m) / 18446744073709551616=0)
set_option maxHeartbeats 6400000 in
set_option maxRecDepth 100000 in
def cP2 (a b n m:Int)(hm:0<=m)(w:World):Calls Tryz.prog 318 #[.agg #[.int .u64 a,.int .u64 b],.int .u64 n,.int .u64 m] w fun e w'=>e= .returned (.tuple #[.agg #[.int .u64 (aV4 a b n m),.int .u64 (aV3 b n m)],.bool (Ug a b n m)])/\Below w.heap.size w w':=by
 have hB:∀o1 o2,Below w.heap.size w ((w.alloc o1).alloc o2):=fun o1 o2=>((cZ _ w).alloc (dD _) _).alloc (by simp) _;have h1:=Xe (b*n);have h2:=Xe (a*n);have h3:0<=N' b n m:=Xe _;have ha1:=T0 (IntKind.u64.wrap (b*n)) m h1 hm;have ha2:=T0 (IntKind.u64.wrap (a*n)) (N' b n m) h2 h3;by_cases hz:V0 a n=0
 ·go_enter Tryz.func318,Tryz.ntmps318
  go_wp2_with (first |(go_at_call 294;refine(bJ8 _ _ _).mono ?_;rintro e w1 ⟨rfl,rfl⟩)|simp only[ha1]|(change Oper.upon _ _ _ _ _ ((callFunc 281 #[.int .u64 (IntKind.u64.wrap (a*n)),.int .u64 (N' b n m),.int .u64 0]).run _ _);simp only[ha2]))
  simp[bodyPost,results,Tryz.results318,go_sem];exact⟨⟨⟨rfl,rfl⟩,by simp[Ug,hz];rfl⟩,hB _ _⟩
 ·go_enter Tryz.func318,Tryz.ntmps318
  go_wp2_with (first |(go_at_call 294;refine(bJ8 _ _ _).mono ?_;rintro e w1 ⟨rfl,rfl⟩)|simp only[ha1]|(change Oper.upon _ _ _ _ _ ((callFunc 281 #[.int .u64 (IntKind.u64.wrap (a*n)),.int .u64 (N' b n m),.int .u64 0]).run _ _);simp only[ha2]))
  simp[bodyPost,results,Tryz.results318,go_sem];exact⟨⟨⟨rfl,rfl⟩,by simp[Ug,hz]⟩,hB _ _⟩
end Go.Proofs.YtdlpbedneamebaaGreatDoor
