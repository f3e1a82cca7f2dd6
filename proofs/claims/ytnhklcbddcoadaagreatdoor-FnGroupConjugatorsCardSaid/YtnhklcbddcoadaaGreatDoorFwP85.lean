/- Path lemmas (written by Vc.lean). -/
import Derived.Test.YtnhklcbddcoadaaGreatDoorFwMk
import Derived.Test.YtnhklcbddcoadaaGreatDoorFwP28
import Derived.Test.YtnhklcbddcoadaaGreatDoorFwP30
import Derived.Test.YtnhklcbddcoadaaGreatDoorFwP16
import Derived.Test.YtnhklcbddcoadaaGreatDoorGrK
set_option linter.unusedVariables false
set_option linter.unusedSimpArgs false
set_option linter.unusedSectionVars false
section
set_option maxRecDepth 20000
open Go Go.PR Go.Proofs Go.PR.S
namespace Go.PR.S
theorem ztr : X.ft F.z36 = some Tryz.f13 := by kernel_rfl
def z6y (c : List Int) (t6a : Nat) (t1015_2a : Int) : LSt := ⟨mkE 38 0 [(0,.immI .u8 c),(5,.ptr 1015 0),(6,iD (↑t6a : Int))],[(1015,⟨true,.var [.immI .u8 c,iD 0,.int .u64 t1015_2a]⟩)]⟩
def za3 (c : List Int) (t1015_2az : Int) : OutL := .exit 0 ⟨mkE 38 0 [(5,.ptr 1015 0)],[(1015,⟨true,.var [.immI .u8 c,iD 0,.int .u64 t1015_2az]⟩)]⟩
section
variable {Q : Out -> Prop} {c : List Int} {t6a : Nat} {t1015_2a : Int}
theorem ztt (h1 : (↑t6a : Int) < (↑c.length : Int)) (h2 : (↑t6a : Int) + (1 : Int) <= (9223372036854775807 : Int)) (hq : wq F.z36 0 Tryz.f13 0 (z6y c (t6a + 1) (uadd (uadd (umul t1015_2a (1099511628211 : Int)) (IntKind.u64.wrap (c.getD t6a 0))) (5 : Int))) Q) : wq F.z36 0 Tryz.f13 0 (z6y c t6a t1015_2a) Q :=
 RS [true] (.normal (z6y c (t6a + 1) (uadd (uadd (umul t1015_2a (1099511628211 : Int)) (IntKind.u64.wrap (c.getD t6a 0))) (5 : Int)))) [decide ((↑t6a : Int) < (↑c.length : Int)) = true,(0 : Int) <= (↑t6a : Int) /\ (↑t6a : Int) < (↑c.length : Int),inR ((↑t6a : Int) + (1 : Int))] (PA (decide_eq_true h1) (PA ⟨(by omega),h1⟩ (PA ⟨(by omega),h2⟩ trivial))) PN LN hq
theorem ztu (h3 : ¬(↑t6a : Int) < (↑c.length : Int)) (hq : Q (za3 c t1015_2a).out) : wq F.z36 0 Tryz.f13 0 (z6y c t6a t1015_2a) Q :=
 RS [false] (za3 c t1015_2a) [decide ((↑t6a : Int) < (↑c.length : Int)) = false] (PA (decide_eq_false h3) trivial) PN LN hq
end
theorem zts {c : List Int} {s t1015_2az : Int} (l4 : wl F.z36 0 Tryz.f13 0 (z6y c 0 (uadd (umul s (7681 : Int)) (IntKind.u64.wrap (↑c.length : Int)))) (za3 c t1015_2az)) : Runs X F.z36 [.immI .u8 c,.int .u64 s] [] ⟨.ptr 600000 0,[],[⟨true,.var [.immI .u8 c,iD 0,.int .u64 t1015_2az]⟩]⟩ :=
 RG ztr [] [] trivial PN (LC l4 LN)
theorem zdl : X.ft F.z5m = some Tryz.f14 := by kernel_rfl
section
variable {n : Int} {c : List Int} {a h : Int}
theorem zti (h1 : n < (1 : Int)) : Runs X F.z5m [.ptr 500000 0,iD n] [⟨true,.var [.immI .u8 c,iD a,.int .u64 h]⟩] ⟨iD 0,[some ⟨true,.var [.immI .u8 c,iD a,.int .u64 h]⟩],[]⟩ :=
 RG zdl [true] [decide (n < (1 : Int)) = true] (PA (decide_eq_true h1) trivial) PN LN
section
variable (h2 : ¬n < (1 : Int)) (h3 : (-9223372036854775808 : Int) <= uand (ushr (uadd (umul h (6364136223846793005 : Int)) (1442695040888963407 : Int)) (33 : Int)) (16777215 : Int)) (h4 : uand (ushr (uadd (umul h (6364136223846793005 : Int)) (1442695040888963407 : Int)) (33 : Int)) (16777215 : Int) <= (9223372036854775807 : Int))
include h2 h3 h4
theorem ztj (h5 : a < (↑c.length : Int)) (h6 : (0 : Int) <= a) (h7 : (-9223372036854775808 : Int) <= c.getD a.toNat 0) (h8 : c.getD a.toNat 0 <= (9223372036854775807 : Int)) (h9 : (-9223372036854775808 : Int) <= uand (ushr (uadd (umul h (6364136223846793005 : Int)) (1442695040888963407 : Int)) (33 : Int)) (16777215 : Int) + c.getD a.toNat 0) (h10 : uand (ushr (uadd (umul h (6364136223846793005 : Int)) (1442695040888963407 : Int)) (33 : Int)) (16777215 : Int) + c.getD a.toNat 0 <= (9223372036854775807 : Int)) (h11 : a + (1 : Int) <= (9223372036854775807 : Int)) : Runs X F.z5m [.ptr 500000 0,iD n] [⟨true,.var [.immI .u8 c,iD a,.int .u64 h]⟩] ⟨iD ((uand (ushr (uadd (umul h (6364136223846793005 : Int)) (1442695040888963407 : Int)) (33 : Int)) (16777215 : Int) + c.getD a.toNat 0).tmod n),[some ⟨true,.var [.immI .u8 c,iD (a + (1 : Int)),.int .u64 (uadd (umul h (6364136223846793005 : Int)) (1442695040888963407 : Int))]⟩],[]⟩ :=
 RG zdl [false,true] [decide (n < (1 : Int)) = false,(0 : Int) <= (33 : Int),inR (uand (ushr (uadd (umul h (6364136223846793005 : Int)) (1442695040888963407 : Int)) (33 : Int)) (16777215 : Int)),decide (a < (↑c.length : Int)) = true,(0 : Int) <= a /\ a < (↑c.length : Int),inR (c.getD a.toNat 0),inR (uand (ushr (uadd (umul h (6364136223846793005 : Int)) (1442695040888963407 : Int)) (33 : Int)) (16777215 : Int) + c.getD a.toNat 0),inR (a + (1 : Int)),n ≠ (0 : Int)] (PA (decide_eq_false h2) (PO (PA ⟨h3,h4⟩ (PA (decide_eq_true h5) (PA ⟨h6,h5⟩ (PA ⟨h7,h8⟩ (PA ⟨h9,h10⟩ (PA ⟨(by omega),h11⟩ (PO trivial))))))))) PN LN
theorem ztk (h12 : ¬a < (↑c.length : Int)) : Runs X F.z5m [.ptr 500000 0,iD n] [⟨true,.var [.immI .u8 c,iD a,.int .u64 h]⟩] ⟨iD ((uand (ushr (uadd (umul h (6364136223846793005 : Int)) (1442695040888963407 : Int)) (33 : Int)) (16777215 : Int)).tmod n),[some ⟨true,.var [.immI .u8 c,iD a,.int .u64 (uadd (umul h (6364136223846793005 : Int)) (1442695040888963407 : Int))]⟩],[]⟩ :=
 RG zdl [false,false] [decide (n < (1 : Int)) = false,(0 : Int) <= (33 : Int),inR (uand (ushr (uadd (umul h (6364136223846793005 : Int)) (1442695040888963407 : Int)) (33 : Int)) (16777215 : Int)),decide (a < (↑c.length : Int)) = false,n ≠ (0 : Int)] (PA (decide_eq_false h2) (PO (PA ⟨h3,h4⟩ (PA (decide_eq_false h12) (PO trivial))))) PN LN
end
end
theorem zpt : X.ft F.z9e = some Tryz.f47 := by kernel_rfl
theorem zpu {m n : Int} {b1 : Bool} (c2 : Runs X F.z2j [iD n,iD 0,iD 24] [] (boolR b1)) (h3 : b1 = true) {r4 : Int} (c5 : Runs X F.z5d [iD n] [] (intR r4)) (h6 : (-9223372036854775808 : Int) <= r4 - (1 : Int)) (h7 : r4 - (1 : Int) <= (9223372036854775807 : Int)) {b8 : Bool} (c9 : Runs X F.z2j [iD m,iD 0,iD (r4 - (1 : Int))] [] (boolR b8)) : Runs X F.z9e [iD m,iD n] [] (boolR b8) :=
 RG zpt [true,true,true,true,true,true] [b1 = true,b1 = true,b1 = true,b1 = true,inR (r4 - (1 : Int)),b1 = true,b1 = true] (PA h3 (PA h3 (PA h3 (PA h3 (PA ⟨h6,h7⟩ (PA h3 (PA h3 trivial))))))) (PC c2 (PC c5 (PC c9 PN))) LN
theorem zpx : X.ft F.z1u = some Tryz.f15 := by kernel_rfl
def z3k (n : Int) (d : List Int) (m : Int) (xs9 : List Int) (t28a : Nat) (r9a : List Int) : LSt := ⟨mkE 48 0 [(2,iD m),(3,.ptr 1003 0),(9,.rsl 9 0 r9a.length),(26,.rsl 1026 0 xs9.length),(27,iD (↑xs9.length : Int)),(28,iD (↑t28a : Int))],[(1003,⟨true,.var [iD n,.immI .i64 d]⟩),(9,⟨true,.ints .i64 r9a⟩),(1026,⟨true,.ints .i64 xs9⟩)]⟩
def z9f (n : Int) (d r9az : List Int) : OutL := .exit 0 ⟨mkE 48 0 [(3,.ptr 1003 0),(9,.rsl 9 0 r9az.length)],[(1003,⟨true,.var [iD n,.immI .i64 d]⟩),(9,⟨true,.ints .i64 r9az⟩)]⟩
section
variable {Q : Out -> Prop} {n : Int} {d : List Int} {m : Int} {xs9 : List Int} {t28a : Nat} {r9a : List Int} (h11 : (↑t28a : Int) < (↑xs9.length : Int)) (h12 : (-9223372036854775808 : Int) <= (xs9.getD (0 + t28a) 0).tdiv (2 : Int)) (h13 : (xs9.getD (0 + t28a) 0).tdiv (2 : Int) <= (9223372036854775807 : Int)) {b14 : Bool} (c15 : Runs X F.z21 [iD m,iD ((xs9.getD (0 + t28a) 0).tdiv (2 : Int))] [] (boolR b14))
include h11 h12 h13 c15
theorem zpz (h16 : b14 = true) (h17 : r9a.length + 1 <= 1099511627776) (h18 : (↑t28a : Int) + (1 : Int) <= (9223372036854775807 : Int)) (hq : wq F.z1u 0 Tryz.f15 0 (z3k n d m xs9 (t28a + 1) (r9a ++ [xs9.getD (0 + t28a) 0])) Q) : wq F.z1u 0 Tryz.f15 0 (z3k n d m xs9 t28a r9a) Q :=
 RS [true,true,true,true,true] (.normal (z3k n d m xs9 (t28a + 1) (r9a ++ [xs9.getD (0 + t28a) 0]))) [decide ((↑t28a : Int) < (↑xs9.length : Int)) = true,(0 : Int) <= (↑t28a : Int) /\ (↑t28a : Int) < (↑xs9.length : Int),0 + t28a < xs9.length,(2 : Int) ≠ (0 : Int),inR ((xs9.getD (0 + t28a) 0).tdiv (2 : Int)),b14 = true,1 <= 1,0 = 0 /\ 1 = 1,0 + r9a.length = r9a.length /\ r9a.length + 1 <= 1099511627776,0 = 0 /\ r9a.length = r9a.length,inR ((↑t28a : Int) + (1 : Int))] (PA (decide_eq_true h11) (PA ⟨(by omega),h11⟩ (PO (PO (PA ⟨h12,h13⟩ (PA h16 (PO (PA ⟨(by omega),(by first|omega|simp)⟩ (PA ⟨(by first|omega|simp),h17⟩ (PA ⟨(by first|omega|simp),(by omega)⟩ (PA ⟨(by omega),h18⟩ trivial))))))))))) (PC c15 PN) LN hq
theorem zq0 (h19 : b14 = false) (h20 : (↑t28a : Int) + (1 : Int) <= (9223372036854775807 : Int)) (hq : wq F.z1u 0 Tryz.f15 0 (z3k n d m xs9 (t28a + 1) r9a) Q) : wq F.z1u 0 Tryz.f15 0 (z3k n d m xs9 t28a r9a) Q :=
 RS [true,false] (.normal (z3k n d m xs9 (t28a + 1) r9a)) [decide ((↑t28a : Int) < (↑xs9.length : Int)) = true,(0 : Int) <= (↑t28a : Int) /\ (↑t28a : Int) < (↑xs9.length : Int),0 + t28a < xs9.length,(2 : Int) ≠ (0 : Int),inR ((xs9.getD (0 + t28a) 0).tdiv (2 : Int)),b14 = false,inR ((↑t28a : Int) + (1 : Int))] (PA (decide_eq_true h11) (PA ⟨(by omega),h11⟩ (PO (PO (PA ⟨h12,h13⟩ (PA h19 (PA ⟨(by omega),h20⟩ trivial))))))) (PC c15 PN) LN hq
end
theorem zq1 {Q : Out -> Prop} {n : Int} {d : List Int} {m : Int} {xs9 : List Int} {t28a : Nat} {r9a : List Int} (h21 : ¬(↑t28a : Int) < (↑xs9.length : Int)) (hq : Q (z9f n d r9a).out) : wq F.z1u 0 Tryz.f15 0 (z3k n d m xs9 t28a r9a) Q :=
 RS [false] (z9f n d r9a) [decide ((↑t28a : Int) < (↑xs9.length : Int)) = false] (PA (decide_eq_false h21) trivial) PN LN hq
theorem zpy {n : Int} {d w : List Int} {m r1 : Int} (c2 : Runs X F.zd [alD n d,.imm2 .i64 [w]] [] (intR r1)) (h4 : r1 = 0) {b5 : Bool} (c6 : Runs X F.z9e [iD m,iD n] [] (boolR b5)) (h8 : b5 = true) {xs9 : List Int} (c10 : Runs X F.z6 [.immI .i64 w] [] (rowR xs9)) {r9az : List Int} (l22 : wl F.z1u 0 Tryz.f15 0 (z3k n d m xs9 0 []) (z9f n d r9az)) {xs23 : List Int} (c24 : Runs X F.ze [alD n d] [] (rowR xs23)) {xs25 : List Int} (c26 : Runs X F.zk [.immI .i64 xs23,.immI .i64 r9az] [] (rowR xs25)) {xs27 : List Int} {r28 : Int} (c29 : Runs X F.z4i [.immI .i64 xs25] [] ⟨.tup [.rsl 600000 0 xs27.length,iD r28],[],[⟨true,.ints .i64 xs27⟩]⟩) : Runs X F.z1u [alD n d,.immI .i64 w,iD m] [] ⟨.tup [.rsl 600000 0 xs27.length,iD r28],[],[⟨true,.ints .i64 xs27⟩]⟩ :=
 RG zpx [true,false,false,true,true,true] [1 <= 1,0 = 0 /\ 1 = 1,(r1 != (0 : Int)) = false,(!b5) = false,0 + xs23.length <= xs23.length,0 = 0 /\ xs23.length = xs23.length,0 + r9az.length <= r9az.length,0 = 0 /\ r9az.length = r9az.length,0 + xs25.length <= xs25.length,0 = 0 /\ xs25.length = xs25.length] (PO (PA ⟨(by omega),(by first|omega|simp)⟩ (PA (bne_eq_false_iff_eq.2 h4) (PA (not_f h8) (PO (PA ⟨(by first|omega|simp),(by omega)⟩ (PO (PA ⟨(by first|omega|simp),(by omega)⟩ (PO (PA ⟨(by first|omega|simp),(by omega)⟩ trivial)))))))))) (PC c2 (PC c6 (PC c10 (PC c24 (PC c26 (PC c29 PN)))))) (LC l22 LN)
theorem zp9 : X.ft F.z1t = some Tryz.f16 := by kernel_rfl
def z3h (n : Int) (w : List Int) (t22a : Nat) (r7a : List Int) : LSt := ⟨mkE 45 0 [(7,.rsl 7 0 n.toNat),(20,.immI .i64 w),(21,iD (↑w.length : Int)),(22,iD (↑t22a : Int))],[(7,⟨true,.ints .i64 r7a⟩)]⟩
def z9b (n : Int) (r7az : List Int) : OutL := .exit 0 ⟨mkE 45 0 [(7,.rsl 7 0 n.toNat)],[(7,⟨true,.ints .i64 r7az⟩)]⟩
section
variable {Q : Out -> Prop} {n : Int} {w : List Int} (h5 : (0 : Int) <= n) (h6 : n <= (↑1099511627776 : Int)) {t22a : Nat} {r7a : List Int} (e7 : r7a.length = n.toNat)
include h5 h6 e7
section
variable (h8 : (↑t22a : Int) < (↑w.length : Int))
include h8
theorem zpb (h9 : w.getD t22a 0 > (0 : Int)) (h10 : w.getD t22a 0 - (1 : Int) <= (9223372036854775807 : Int)) (h11 : w.getD t22a 0 - (1 : Int) < (↑n.toNat : Int)) (h12 : (-9223372036854775808 : Int) <= r7a.getD (0 + (w.getD t22a 0 - (1 : Int)).toNat) (0 : Int) + (1 : Int)) (h13 : r7a.getD (0 + (w.getD t22a 0 - (1 : Int)).toNat) (0 : Int) + (1 : Int) <= (9223372036854775807 : Int)) (h14 : (↑t22a : Int) + (1 : Int) <= (9223372036854775807 : Int)) (hq : wq F.z1t 0 Tryz.f16 0 (z3h n w (t22a + 1) (r7a.set (0 + (w.getD t22a 0 - (1 : Int)).toNat) (r7a.getD (0 + (w.getD t22a 0 - (1 : Int)).toNat) (0 : Int) + (1 : Int)))) Q) : wq F.z1t 0 Tryz.f16 0 (z3h n w t22a r7a) Q :=
 RS [true,true] (.normal (z3h n w (t22a + 1) (r7a.set (0 + (w.getD t22a 0 - (1 : Int)).toNat) (r7a.getD (0 + (w.getD t22a 0 - (1 : Int)).toNat) (0 : Int) + (1 : Int))))) [decide ((↑t22a : Int) < (↑w.length : Int)) = true,(0 : Int) <= (↑t22a : Int) /\ (↑t22a : Int) < (↑w.length : Int),decide (w.getD t22a 0 > (0 : Int)) = true,inR (w.getD t22a 0 - (1 : Int)),(0 : Int) <= w.getD t22a 0 - (1 : Int) /\ w.getD t22a 0 - (1 : Int) < (↑n.toNat : Int),0 + (w.getD t22a 0 - (1 : Int)).toNat < r7a.length,inR (r7a.getD (0 + (w.getD t22a 0 - (1 : Int)).toNat) (0 : Int) + (1 : Int)),(0 : Int) <= w.getD t22a 0 - (1 : Int) /\ w.getD t22a 0 - (1 : Int) < (↑n.toNat : Int),0 + (w.getD t22a 0 - (1 : Int)).toNat < r7a.length,inR ((↑t22a : Int) + (1 : Int))] (PA (decide_eq_true h8) (PA ⟨(by omega),h8⟩ (PA (decide_eq_true h9) (PA ⟨(by omega),h10⟩ (PA ⟨(by omega),h11⟩ (PO (PA ⟨h12,h13⟩ (PA ⟨(by omega),h11⟩ (PO (PA ⟨(by omega),h14⟩ trivial)))))))))) PN LN hq
theorem zpc (h15 : ¬w.getD t22a 0 > (0 : Int)) (h16 : -w.getD t22a 0 <= (9223372036854775807 : Int)) (h17 : (0 : Int) <= -w.getD t22a 0 - (1 : Int)) (h18 : -w.getD t22a 0 - (1 : Int) < (↑n.toNat : Int)) (h19 : (-9223372036854775808 : Int) <= r7a.getD (0 + (-w.getD t22a 0 - (1 : Int)).toNat) (0 : Int) - (1 : Int)) (h20 : r7a.getD (0 + (-w.getD t22a 0 - (1 : Int)).toNat) (0 : Int) - (1 : Int) <= (9223372036854775807 : Int)) (h21 : (↑t22a : Int) + (1 : Int) <= (9223372036854775807 : Int)) (hq : wq F.z1t 0 Tryz.f16 0 (z3h n w (t22a + 1) (r7a.set (0 + (-w.getD t22a 0 - (1 : Int)).toNat) (r7a.getD (0 + (-w.getD t22a 0 - (1 : Int)).toNat) (0 : Int) - (1 : Int)))) Q) : wq F.z1t 0 Tryz.f16 0 (z3h n w t22a r7a) Q :=
 RS [true,false] (.normal (z3h n w (t22a + 1) (r7a.set (0 + (-w.getD t22a 0 - (1 : Int)).toNat) (r7a.getD (0 + (-w.getD t22a 0 - (1 : Int)).toNat) (0 : Int) - (1 : Int))))) [decide ((↑t22a : Int) < (↑w.length : Int)) = true,(0 : Int) <= (↑t22a : Int) /\ (↑t22a : Int) < (↑w.length : Int),decide (w.getD t22a 0 > (0 : Int)) = false,inR (-w.getD t22a 0),inR (-w.getD t22a 0 - (1 : Int)),(0 : Int) <= -w.getD t22a 0 - (1 : Int) /\ -w.getD t22a 0 - (1 : Int) < (↑n.toNat : Int),0 + (-w.getD t22a 0 - (1 : Int)).toNat < r7a.length,inR (r7a.getD (0 + (-w.getD t22a 0 - (1 : Int)).toNat) (0 : Int) - (1 : Int)),(0 : Int) <= -w.getD t22a 0 - (1 : Int) /\ -w.getD t22a 0 - (1 : Int) < (↑n.toNat : Int),0 + (-w.getD t22a 0 - (1 : Int)).toNat < r7a.length,inR ((↑t22a : Int) + (1 : Int))] (PA (decide_eq_true h8) (PA ⟨(by omega),h8⟩ (PA (decide_eq_false h15) (PA ⟨(by omega),h16⟩ (PA ⟨(by omega),(by omega)⟩ (PA ⟨h17,h18⟩ (PO (PA ⟨h19,h20⟩ (PA ⟨h17,h18⟩ (PO (PA ⟨(by omega),h21⟩ trivial))))))))))) PN LN hq
end
theorem zpd (h22 : ¬(↑t22a : Int) < (↑w.length : Int)) (hq : Q (z9b n r7a).out) : wq F.z1t 0 Tryz.f16 0 (z3h n w t22a r7a) Q :=
 RS [false] (z9b n r7a) [decide ((↑t22a : Int) < (↑w.length : Int)) = false] (PA (decide_eq_false h22) trivial) PN LN hq
end
theorem zpa {n : Int} {d w : List Int} {r1 : Int} (c2 : Runs X F.zd [alD n d,.imm2 .i64 [w]] [] (intR r1)) (h4 : r1 = 0) (h5 : (0 : Int) <= n) (h6 : n <= (↑1099511627776 : Int)) {r7az : List Int} (l23 : wl F.z1t 0 Tryz.f16 0 (z3h n w 0 (List.replicate n.toNat (0 : Int))) (z9b n r7az)) : Runs X F.z1t [alD n d,.immI .i64 w] [] ⟨.tup [.rsl 600000 0 n.toNat,iD 0],[],[⟨true,.ints .i64 r7az⟩]⟩ :=
 RG zp9 [true,false] [1 <= 1,0 = 0 /\ 1 = 1,(r1 != (0 : Int)) = false,(0 : Int) <= n /\ n <= n /\ n <= (↑1099511627776 : Int)] (PO (PA ⟨(by omega),(by first|omega|simp)⟩ (PA (bne_eq_false_iff_eq.2 h4) (PA ⟨h5,⟨(by omega),h6⟩⟩ trivial)))) (PC c2 PN) (LC l23 LN)
theorem zf5 : X.ft F.z2q = some Tryz.f64 := by kernel_rfl
section
variable {c c1 : List Int} {a2 h3 n4 : Int} {xs5 ys6 : List Int} (c7 : Runs X F.z67 [.immI .u8 c,iD 5,iD 8] [] ⟨.tup [.ptr 600000 0,.agg [iD n4,.rsl 600001 0 xs5.length],.rsl 600002 0 ys6.length],[],[⟨true,.var [.immI .u8 c1,iD a2,.int .u64 h3]⟩,⟨true,.ints .i64 xs5⟩,⟨true,.ints .i64 ys6⟩]⟩) {b8 : Bool} (c9 : Runs X F.z25 [alD n4 xs5,.immI .i64 ys6] [] (boolR b8))
include c7 c9
theorem z11v (h10 : b8 = false) : Runs X F.z2q [.immI .u8 c] [] ⟨.tup [.ptr 600000 0,.agg [iD n4,.rsl 600001 0 xs5.length],.rsl 600002 0 ys6.length],[],[⟨true,.var [.immI .u8 c1,iD a2,.int .u64 h3]⟩,⟨true,.ints .i64 xs5⟩,⟨true,.ints .i64 ys6⟩]⟩ :=
 RG zf5 [true,true,true,true,true,true,true] [0 + xs5.length <= xs5.length,0 = 0 /\ xs5.length = xs5.length,0 + ys6.length <= ys6.length,0 = 0 /\ ys6.length = ys6.length,(!b8) = true,(!b8) = true,(!b8) = true,(!b8) = true,true = true] (PO (PA ⟨(by first|omega|simp),(by omega)⟩ (PO (PA ⟨(by first|omega|simp),(by omega)⟩ (PA (not_t h10) (PA (not_t h10) (PA (not_t h10) (PA (not_t h10) (PA rfl trivial))))))))) (PC c7 (PC c9 PN)) LN
theorem z11w (h11 : b8 = true) (h12 : (↑ys6.length : Int) > (12 : Int)) : Runs X F.z2q [.immI .u8 c] [] ⟨.tup [.ptr 600000 0,.agg [iD n4,.rsl 600001 0 xs5.length],.rsl 600002 0 ys6.length],[],[⟨true,.var [.immI .u8 c1,iD a2,.int .u64 h3]⟩,⟨true,.ints .i64 xs5⟩,⟨true,.ints .i64 ys6⟩]⟩ :=
 RG zf5 [true,true,false,false,false,false,true] [0 + xs5.length <= xs5.length,0 = 0 /\ xs5.length = xs5.length,0 + ys6.length <= ys6.length,0 = 0 /\ ys6.length = ys6.length,(!b8) = false,(!b8) = false,(!b8) = false,(!b8) = false,decide ((↑ys6.length : Int) > (12 : Int)) = true] (PO (PA ⟨(by first|omega|simp),(by omega)⟩ (PO (PA ⟨(by first|omega|simp),(by omega)⟩ (PA (not_f h11) (PA (not_f h11) (PA (not_f h11) (PA (not_f h11) (PA (decide_eq_true h12) trivial))))))))) (PC c7 (PC c9 PN)) LN
theorem z11x (h11 : b8 = true) (h13 : ¬(↑ys6.length : Int) > (12 : Int)) {ys14 c15 : List Int} {a16 h17 : Int} {xs18 : List Int} (c19 : Runs X F.zf [.ptr 500000 0,.agg [iD n4,.rsl 500001 0 xs5.length],iD 4] [⟨true,.var [.immI .u8 c1,iD a2,.int .u64 h3]⟩,⟨true,.ints .i64 xs5⟩] ⟨.rsl 600000 0 ys14.length,[some ⟨true,.var [.immI .u8 c15,iD a16,.int .u64 h17]⟩,some ⟨true,.ints .i64 xs18⟩],[⟨true,.ints .i64 ys14⟩]⟩) {xs20 : List Int} (c21 : Runs X F.z18 [.immI .i64 ys14] [] (rowR xs20)) (h22 : xs20.length + ys6.length <= 1099511627776) {xs23 : List Int} (c24 : Runs X F.zg [.immI .i64 ys14] [] (rowR xs23)) {xs25 : List Int} (c26 : Runs X F.z1k [.immI .i64 xs23] [] (rowR xs25)) {xs27 : List Int} (c28 : Runs X F.zj [.immI .i64 xs25] [] (rowR xs27)) (h29 : (xs20 ++ ys6).length + xs27.length <= 1099511627776) : Runs X F.z2q [.immI .u8 c] [] ⟨.tup [.ptr 600000 0,.agg [iD n4,.rsl 600001 0 xs5.length],.rsl 600002 0 (xs20 ++ ys6 ++ xs27).length],[],[⟨true,.var [.immI .u8 c15,iD a16,.int .u64 h17]⟩,⟨true,.ints .i64 xs18⟩,⟨true,.ints .i64 (xs20 ++ ys6 ++ xs27)⟩]⟩ :=
 RG zf5 [true,true,false,false,false,false,false,true,true,true,true,true,true,true,true,true,true] [0 + xs5.length <= xs5.length,0 = 0 /\ xs5.length = xs5.length,0 + ys6.length <= ys6.length,0 = 0 /\ ys6.length = ys6.length,(!b8) = false,(!b8) = false,(!b8) = false,(!b8) = false,decide ((↑ys6.length : Int) > (12 : Int)) = false,0 + ys14.length <= ys14.length,0 = 0 /\ ys14.length = ys14.length,0 + ys6.length <= ys6.length,0 = 0 /\ ys6.length = ys6.length,0 + xs20.length = xs20.length /\ xs20.length + ys6.length <= 1099511627776,0 = 0 /\ xs20.length = xs20.length,0 + ys14.length <= ys14.length,0 = 0 /\ ys14.length = ys14.length,0 + xs23.length <= xs23.length,0 = 0 /\ xs23.length = xs23.length,0 + xs25.length <= xs25.length,0 = 0 /\ xs25.length = xs25.length,0 + xs27.length <= xs27.length,0 = 0 /\ xs27.length = xs27.length,0 + (xs20 ++ ys6).length = (xs20 ++ ys6).length /\ (xs20 ++ ys6).length + xs27.length <= 1099511627776,0 = 0 /\ (xs20 ++ ys6).length = (xs20 ++ ys6).length] (PO (PA ⟨(by first|omega|simp),(by omega)⟩ (PO (PA ⟨(by first|omega|simp),(by omega)⟩ (PA (not_f h11) (PA (not_f h11) (PA (not_f h11) (PA (not_f h11) (PA (decide_eq_false h13) (PO (PA ⟨(by first|omega|simp),(by omega)⟩ (PO (PA ⟨(by first|omega|simp),(by omega)⟩ (PA ⟨(by first|omega|simp),h22⟩ (PA ⟨(by first|omega|simp),(by omega)⟩ (PO (PA ⟨(by first|omega|simp),(by omega)⟩ (PO (PA ⟨(by first|omega|simp),(by omega)⟩ (PO (PA ⟨(by first|omega|simp),(by omega)⟩ (PO (PA ⟨(by first|omega|simp),(by omega)⟩ (PA ⟨(by omega),h29⟩ (PA ⟨(by omega),(by omega)⟩ trivial))))))))))))))))))))))))) (PC c7 (PC c9 (PC c19 (PC c21 (PC c24 (PC c26 (PC c28 PN))))))) LN
end
end Go.PR.S

end

section
set_option maxRecDepth 20000
namespace Go.PR.S
open Go Go.PR Go.Proofs Gp
theorem zvt {N : Nat} (hN : N <= 24) (m : Int) : Runs X F.z9e [iD m,iD N] [] (boolR (decide (0 <= m /\ m <= ((2 ^ N : Nat) : Int) - 1))) := by
 have c1 := zah (N : Int) 0 24
 rw [decide_eq_true (by omega)] at c1
 have h2 := pow62 (i := N) (by omega)
 have h3 : ((2 ^ N : Nat) : Int) < ((2 ^ 63 : Nat) : Int) := Int.ofNat_lt.2 h2
 have h4 : (0 : Int) <= ((2 ^ N : Nat) : Int) := Int.natCast_nonneg _
 exact zpu c1 rfl (zam (by omega)) (by omega) (by omega) (zah m 0 _)
theorem zwg {c : List Int} (hc : Bytes c) (s : Int) : ∃ h,Runs X F.z36 [bD c,.int .u64 s] [] ⟨.ptr 600000 0,[],[srcRow c 0 h]⟩ := by
 have hl := hc.len
 have key : ∀ (k i : Nat) (h : Int),i + k = c.length -> ∃ h',WpL X F.z36 0 (lb Tryz.f13 0) (z6y c i h).st (fun o => o = (za3 c h').out) := by
  intro k
  induction k with
  | zero => intro i h hi; exact ⟨h,ztu (by omega) rfl⟩
  | succ k ih =>
    intro i h hi
    obtain ⟨h',hh⟩ := ih (i + 1) (uadd (uadd (umul h 1099511628211) (IntKind.wrap .u64 (c.getD i 0))) 5) (by omega)
    exact ⟨h',ztt (by omega) (by omega) hh⟩
 obtain ⟨h',hh⟩ := key c.length 0 _ (by omega)
 exact ⟨h',zts hh⟩
theorem zvx {c : List Int} (hc : Bytes c) (n a h : Int) (ha : 0 <= a) : ∃ r a' h',0 <= a' /\ 0 <= r /\ (1 <= n -> r < n) /\ (n < 1 -> r = 0) /\
  Runs X F.z5m [sp,iD n] [srcRow c a h] ⟨iD r,[some (srcRow c a' h')],[]⟩ := by
 have hl := hc.len
 by_cases hn : n < 1
 · exact ⟨0,a,h,ha,by omega,by omega,fun _ => rfl,zti hn⟩
 · have hu : 0 <= uand (ushr (uadd (umul h 6364136223846793005) 1442695040888963407) 33) 16777215 /\ uand (ushr (uadd (umul h 6364136223846793005) 1442695040888963407) 33) 16777215 <= 16777215 := uand_le _ (m := 16777215) (by omega)
   by_cases hal : a < c.length
   · have hb := hc.at (i := a.toNat) (by omega)
     have ht := tmod_bd (x := uand (ushr (uadd (umul h 6364136223846793005) 1442695040888963407) 33) 16777215 + c.getD a.toNat 0) (n := n) (by omega) (by omega)
     exact ⟨_,a + 1,_,by omega,ht.1,fun _ => ht.2,by omega,ztj hn (by omega) (by omega) hal ha (by omega) (by omega) (by omega) (by omega) (by omega)⟩
   · have ht := tmod_bd (x := uand (ushr (uadd (umul h 6364136223846793005) 1442695040888963407) 33) 16777215) (n := n) (by omega) (by omega)
     exact ⟨_,a,_,ha,ht.1,fun _ => ht.2,by omega,ztk hn (by omega) (by omega) hal⟩
section
variable {N : Nat} {d : List Int}
section
variable (ha : Al N d) (hd : d.length <= B40)
include ha hd
theorem zhr {w : List Int} {M : Nat} (hM : M < 2 ^ N) (h0 : sgCode N d [w] = 0) : Runs X F.z1u [alD N d,lD w,iD M] [] (pairR ((gnf ha ((w.map code).filter (keepC M))).map sign) 0) := by
 obtain ⟨hN,hl,hb,hz,hW⟩ := z2c ha h0
 have hN8 := ha.small
 have bw : w.length <= B40 := by unfold B40; omega
 have c2 : Runs X F.zd [alD N d,.imm2 .i64 [w]] [] (intR (sgCode N d [w])) := z73 N d [w] hd (by simp [B40]) (by simp [bw])
 have c3 := zvt (N := N) (by omega) (M : Int)
 have hm2 : ((M : Nat) : Int) < ((2 ^ N : Nat) : Int) := Int.ofNat_lt.2 hM
 rw [decide_eq_true (by omega)] at c3
 have h2 := pow62 (i := N) (by omega)
 have hM63 : M < 2 ^ 63 := by omega
 have k6 := z4u hb bw
 have hc : (w.map code).length <= 24 := by simpa using hl
 generalize hG : w.map code = G at *
 have gx : ∀ i,i < G.length -> 0 <= G.getD i 0 /\ G.getD i 0 < 62 := fun i hi => by
  rw [getD_lt hi]
  have := hW _ (List.getElem_mem hi)
  omega
 have hW2 : Wd (2 * N) (G.filter (keepC M)) := fun x hx => hW x (List.mem_filter.1 hx).1
 have hfl := List.length_filter_le (keepC (M : Int)) G
 have hg := gnf_le ha hW2
 have hti : ∀ i,((G.take i).filter (keepC M)).length <= 24 := fun i => by
  have := List.length_filter_le (keepC (M : Int)) (G.take i)
  rw [List.length_take] at this
  omega
 have l2 := loop_to (f := F.z1u) (b := 0) (body := lb Tryz.f15 0) (N := G.length) (o := z9f N d (G.filter (keepC M))) (st := fun i => z3k N d M G i ((G.take i).filter (keepC M))) (fun i hi Q hq => ?_) (fun Q hq => ?_)
 · have gW := gnf_Wd ha hW2
   have k5 := z8l ha
   have k7 := z5w ha hW2 (by unfold B40; omega)
   have k8 := zag hN gW (by unfold B40; omega)
   rw [if_pos (by omega)] at k8
   exact zpy c2 h0 c3 rfl k6 (by simpa using l2) k5 k7 k8
 · have hx := gx i hi
   have hk := (zw2 hM63 hx.1 hx.2).2
   have hh := zhh hx.1
   have ht := hti i
   rw [zog hi] at hq
   cases hb : keepC M (G.getD i 0) with
   | true =>
     rw [hb,if_pos rfl] at hq
     rw [hb] at hk
     apply zpz
     case hq => rw [Nat.zero_add]; exact hq
     all_goals first | rfl | (rw [Nat.zero_add]; exact hk) | (rw [Nat.zero_add]; omega) | omega
   | false =>
     rw [hb,if_neg (by decide),List.append_nil] at hq
     rw [hb] at hk
     apply zq0
     case hq => exact hq
     all_goals first | rfl | (rw [Nat.zero_add]; exact hk) | (rw [Nat.zero_add]; omega) | omega
 · apply zq1
   case hq => simpa using hq
   all_goals omega
end
def expo (ha : Al N d) (U : List Int) : List Int := (List.range N).map fun i : Nat => diff (grp ha) (2 * (i : Int)) U
theorem z3e (ha : Al N d) (U : List Int) : (expo ha U).length = N := by unfold expo; simp
theorem z96 (ha : Al N d) (U : List Int) {i : Nat} (h : i < N) : (expo ha U).getD i 0 = diff (grp ha) (2 * (i : Int)) U := by
 unfold expo
 rw [List.getD_eq_getElem?_getD,List.getElem?_map,List.getElem?_range h]; rfl
theorem diff_bd (ha : Al N d) (a : Int) (U : List Int) : -(U.length : Int) <= diff (grp ha) a U /\ diff (grp ha) a U <= U.length := by
 unfold diff
 have h1 := List.count_le_length (a := a) (l := U)
 have h2 := List.count_le_length (a := (grp ha).inv a) (l := U)
 omega
theorem znt (ha : Al N d) (j : Nat) (c : Int) : diff (grp ha) (2 * (j : Int)) [c] = if c = 2 * (j : Int) then 1 else if c = 2 * (j : Int) + 1 then -1 else 0 := by
 unfold diff
 have e : (grp ha).inv (2 * (j : Int)) = 2 * (j : Int) + 1 := by show opp (2 * (j : Int)) = _; unfold opp; rw [if_pos (by omega)]
 rw [e]
 have cnt : ∀ x y : Int,([x].count y : Int) = if x = y then 1 else 0 := fun x y => by
  by_cases h : x = y
  · rw [if_pos h,h]; simp
  · rw [if_neg h,List.count_eq_zero_of_not_mem (by simpa using fun e => h e.symm)]; rfl
 rw [cnt,cnt]
 by_cases h1 : c = 2 * (j : Int)
 · rw [if_pos h1,if_pos h1,if_neg (by omega)]; rfl
 · rw [if_neg h1,if_neg h1]
   by_cases h2 : c = 2 * (j : Int) + 1
   · rw [if_pos h2,if_pos h2]; rfl
   · rw [if_neg h2,if_neg h2]; rfl
theorem zgy (ha : Al N d) (U : List Int) (c : Int) {k : Nat} (hk : k < N) (e : Int) (hc : (c = 2 * (k : Int) /\ e = 1) \/ (c = 2 * (k : Int) + 1 /\ e = -1)) :
  (expo ha U).set k ((expo ha U).getD k 0 + e) = expo ha (U ++ [c]) := by
 apply List.ext_getElem
 · rw [List.length_set,z3e,z3e]
 · intro j h1 h2
   rw [List.length_set,z3e] at h1
   have g1 : ∀ V : List Int,∀ h : j < (expo ha V).length,(expo ha V)[j] = diff (grp ha) (2 * (j : Int)) V := fun V h => by
    rw [<- getD_lt h,z96 ha V h1]
   rw [List.getElem_set,g1 U,g1 (U ++ [c]),z93,znt,z96 ha U hk]
   by_cases h : k = j
   · subst h
     rw [if_pos rfl]
     rcases hc with ⟨rfl,rfl⟩ | ⟨rfl,rfl⟩
     · rw [if_pos rfl]
     · rw [if_neg (by omega),if_pos rfl]
   · rw [if_neg h]
     rcases hc with ⟨rfl,rfl⟩ | ⟨rfl,rfl⟩
     · rw [if_neg (by omega),if_neg (by omega)]; omega
     · rw [if_neg (by omega),if_neg (by omega)]; omega
theorem zhp (ha : Al N d) (hd : d.length <= B40) {w : List Int} (h0 : sgCode N d [w] = 0) : Runs X F.z1t [alD N d,lD w] [] (pairR (expo ha (w.map code)) 0) := by
 obtain ⟨hN,hl,hb,hz,hW⟩ := z2c ha h0
 have hN8 := ha.small
 have bw : w.length <= B40 := by unfold B40; omega
 have c2 : Runs X F.zd [alD N d,.imm2 .i64 [w]] [] (intR (sgCode N d [w])) := z73 N d [w] hd (by simp [B40]) (by simp [bw])
 have e0 : List.replicate ((N : Int)).toNat (0 : Int) = expo ha [] := by
  apply List.ext_getElem
  · rw [z3e]; simp
  · intro i h1 h2
    have h3 := h2
    rw [z3e] at h3
    have e1 : (expo ha [])[i] = 0 := by
     rw [<- getD_lt h2,z96 ha [] h3]; simp [diff]
    rw [e1,List.getElem_replicate]
 have hlp := loop_to (f := F.z1t) (b := 0) (body := lb Tryz.f16 0) (N := w.length) (o := z9b N (expo ha (w.map code))) (st := fun i => z3h N w i (expo ha ((w.take i).map code))) (fun i hi Q hq => ?_) (fun Q hq => ?_)
 · have := zpa (n := (N : Int)) c2 h0 (by omega) (by omega) (by rw [e0]; simpa using hlp)
   have e : (N : Int).toNat = (expo ha (w.map code)).length := by rw [z3e]; simp
   rw [e] at this
   exact this
 · have hx := hb.at hi
   have hw0 : w.getD i 0 ≠ 0 := by rw [getD_lt hi]; exact hz _ (List.getElem_mem hi)
   have hwc : 0 <= code (w.getD i 0) /\ code (w.getD i 0) < (2 * N : Nat) := by
    rw [getD_lt hi]; exact hW _ (List.mem_map.2 ⟨_,List.getElem_mem hi,rfl⟩)
   rw [z5q hi] at hq
   have hlen := z3e ha ((w.take i).map code)
   have hb1 : ∀ j : Nat,j < N -> -24 <= (expo ha ((w.take i).map code)).getD j 0 /\ (expo ha ((w.take i).map code)).getD j 0 <= 24 := fun j hj => by
    rw [z96 ha _ hj]
    have := diff_bd ha (2 * (j : Int)) ((w.take i).map code)
    rw [List.length_map,List.length_take] at this
    omega
   unfold code at hwc
   by_cases hp : w.getD i 0 > 0
   · rw [if_neg (by omega)] at hwc
     have hk : (0 + (w.getD i 0 - 1).toNat) < N := by omega
     have hbb := hb1 _ hk
     have hs := zgy ha ((w.take i).map code) (code (w.getD i 0)) hk 1 (.inl ⟨by unfold code; rw [if_neg (by omega)]; omega,rfl⟩)
     apply zpb
     case hq => rw [hs]; exact hq
     all_goals first | omega | (simp; omega)
   · rw [if_pos (by omega)] at hwc
     have hk : (0 + (-w.getD i 0 - 1).toNat) < N := by omega
     have hbb := hb1 _ hk
     have hs := zgy ha ((w.take i).map code) (code (w.getD i 0)) hk (-1) (.inr ⟨by unfold code; rw [if_pos (by omega)]; omega,rfl⟩)
     apply zpc
     case hq => rw [<- hs] at hq; exact hq
     all_goals first | omega | (simp; omega)
 · apply zpd
   case hq => simpa using hq
   all_goals first | omega | (rw [z3e]; simp)
end
end Go.PR.S

end
