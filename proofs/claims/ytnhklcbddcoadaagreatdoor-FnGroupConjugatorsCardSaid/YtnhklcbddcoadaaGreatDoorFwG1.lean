/- Path lemmas (written by Vc.lean). -/
import Derived.Test.YtnhklcbddcoadaaGreatDoorFwMk
set_option linter.unusedVariables false
set_option linter.unusedSimpArgs false
set_option linter.unusedSectionVars false
set_option maxRecDepth 20000
open Go Go.PR Go.Proofs Go.PR.S
namespace Go.PR.S
theorem z7y : X.ft F.z1f = some Tryz.f81 := by kernel_rfl
section
variable {n : Int} {d : List Int} {b1 : Bool} (c2 : Runs X F.z2j [iD n,iD 0,iD 8] [] (boolR b1))
include c2
theorem zpk (h3 : b1 = false) : Runs X F.z1f [alD n d] [] (boolR false) :=
 RG z7y [true,true,true,true,true,true,true,true,true,true,true,true,true] [(!b1) = true,(!b1) = true,(!b1) = true,(!b1) = true,(!b1) = true,(!b1) = true,(!b1) = true,true = true,true = true,true = true,true = true,true = true,true = true] (PA (not_t h3) (PA (not_t h3) (PA (not_t h3) (PA (not_t h3) (PA (not_t h3) (PA (not_t h3) (PA (not_t h3) (PO (PO (PO (PO (PO (PO trivial))))))))))))) (PC c2 PN) LN
section
variable (h4 : b1 = true) {r5 : Int} (c6 : Runs X F.z4j [.immI .i64 d] [] (intR r5))
include h4 c6
theorem zpl (h7 : ¬r5 = n) : Runs X F.z1f [alD n d] [] (boolR false) :=
 RG z7y [false,false,false,false,false,false,false,true,true,true,true,true,true] [(!b1) = false,(!b1) = false,(!b1) = false,(!b1) = false,(!b1) = false,(!b1) = false,(!b1) = false,(r5 != n) = true,(r5 != n) = true,(r5 != n) = true,(r5 != n) = true,(r5 != n) = true,true = true] (PA (not_f h4) (PA (not_f h4) (PA (not_f h4) (PA (not_f h4) (PA (not_f h4) (PA (not_f h4) (PA (not_f h4) (PA (bne_iff_ne.2 h7) (PA (bne_iff_ne.2 h7) (PA (bne_iff_ne.2 h7) (PA (bne_iff_ne.2 h7) (PA (bne_iff_ne.2 h7) (PO trivial))))))))))))) (PC c2 (PC c6 PN)) LN
theorem zpm (h8 : r5 = n) {b9 : Bool} (c10 : Runs X F.z6m [.immI .i64 d] [] (boolR b9)) (h11 : b9 = false) : Runs X F.z1f [alD n d] [] (boolR false) :=
 RG z7y [false,false,false,false,false,false,false,false,false,false,false,false,true] [(!b1) = false,(!b1) = false,(!b1) = false,(!b1) = false,(!b1) = false,(!b1) = false,(!b1) = false,(r5 != n) = false,(r5 != n) = false,(r5 != n) = false,(r5 != n) = false,(r5 != n) = false,(!b9) = true] (PA (not_f h4) (PA (not_f h4) (PA (not_f h4) (PA (not_f h4) (PA (not_f h4) (PA (not_f h4) (PA (not_f h4) (PA (bne_eq_false_iff_eq.2 h8) (PA (bne_eq_false_iff_eq.2 h8) (PA (bne_eq_false_iff_eq.2 h8) (PA (bne_eq_false_iff_eq.2 h8) (PA (bne_eq_false_iff_eq.2 h8) (PA (not_t h11) trivial))))))))))))) (PC c2 (PC c6 (PC c10 PN))) LN
end
end
def z3j (n : Int) (d xs13 : List Int) (t27a : Nat) : LSt := ⟨mkE 46 0 [(1,.ptr 1001 0),(25,.rsl 1025 0 xs13.length),(26,iD (↑xs13.length : Int)),(27,iD (↑t27a : Int))],[(1001,⟨true,.var [iD n,.immI .i64 d]⟩),(1025,⟨true,.ints .i64 xs13⟩)]⟩
def z6l : OutL := .ret ⟨mkE 46 0 [(2,.bool false)],[]⟩
def z9d : OutL := .exit 0 ⟨mkE 46 0 [],[]⟩
section
variable {Q : Out -> Prop} {n : Int} {d xs13 : List Int} (c14 : Runs X F.z1g [.immI .i64 d] [] (rowR xs13)) {t27a : Nat} (h15 : (↑t27a : Int) < (↑xs13.length : Int)) (h16 : (↑t27a : Int) < (↑d.length : Int))
include c14 h15 h16
theorem zpp (h17 : ¬xs13.getD (0 + t27a) 0 = d.getD t27a 0) (hq : Q (z6l).out) : wq F.z1f 0 Tryz.f81 0 (z3j n d xs13 t27a) Q :=
 RS [true,true,true,true,true,true,true] (z6l) [decide ((↑t27a : Int) < (↑xs13.length : Int)) = true,(0 : Int) <= (↑t27a : Int) /\ (↑t27a : Int) < (↑xs13.length : Int),0 + t27a < xs13.length,(0 : Int) <= (↑t27a : Int) /\ (↑t27a : Int) < (↑d.length : Int),(xs13.getD (0 + t27a) 0 != d.getD t27a 0) = true,(xs13.getD (0 + t27a) 0 != d.getD t27a 0) = true,(xs13.getD (0 + t27a) 0 != d.getD t27a 0) = true,(xs13.getD (0 + t27a) 0 != d.getD t27a 0) = true,(xs13.getD (0 + t27a) 0 != d.getD t27a 0) = true,true = true] (PA (decide_eq_true h15) (PA ⟨(by omega),h15⟩ (PO (PA ⟨(by omega),h16⟩ (PA (bne_iff_ne.2 h17) (PA (bne_iff_ne.2 h17) (PA (bne_iff_ne.2 h17) (PA (bne_iff_ne.2 h17) (PA (bne_iff_ne.2 h17) (PO trivial)))))))))) PN LN hq
section
variable (h18 : xs13.getD (0 + t27a) 0 = d.getD t27a 0) {b19 : Bool} (c20 : Runs X F.z21 [iD (xs13.getD (0 + t27a) 0),iD (↑t27a : Int)] [] (boolR b19))
include h18 c20
theorem zpq (h21 : b19 = false) (hq : Q (z6l).out) : wq F.z1f 0 Tryz.f81 0 (z3j n d xs13 t27a) Q :=
 RS [true,false,false,false,false,false,true] (z6l) [decide ((↑t27a : Int) < (↑xs13.length : Int)) = true,(0 : Int) <= (↑t27a : Int) /\ (↑t27a : Int) < (↑xs13.length : Int),0 + t27a < xs13.length,(0 : Int) <= (↑t27a : Int) /\ (↑t27a : Int) < (↑d.length : Int),(xs13.getD (0 + t27a) 0 != d.getD t27a 0) = false,(xs13.getD (0 + t27a) 0 != d.getD t27a 0) = false,(xs13.getD (0 + t27a) 0 != d.getD t27a 0) = false,(xs13.getD (0 + t27a) 0 != d.getD t27a 0) = false,(xs13.getD (0 + t27a) 0 != d.getD t27a 0) = false,(!b19) = true] (PA (decide_eq_true h15) (PA ⟨(by omega),h15⟩ (PO (PA ⟨(by omega),h16⟩ (PA (bne_eq_false_iff_eq.2 h18) (PA (bne_eq_false_iff_eq.2 h18) (PA (bne_eq_false_iff_eq.2 h18) (PA (bne_eq_false_iff_eq.2 h18) (PA (bne_eq_false_iff_eq.2 h18) (PA (not_t h21) trivial)))))))))) (PC c20 PN) LN hq
theorem zpr (h22 : b19 = true) (h23 : (↑t27a : Int) + (1 : Int) <= (9223372036854775807 : Int)) (hq : wq F.z1f 0 Tryz.f81 0 (z3j n d xs13 (t27a + 1)) Q) : wq F.z1f 0 Tryz.f81 0 (z3j n d xs13 t27a) Q :=
 RS [true,false,false,false,false,false,false] (.normal (z3j n d xs13 (t27a + 1))) [decide ((↑t27a : Int) < (↑xs13.length : Int)) = true,(0 : Int) <= (↑t27a : Int) /\ (↑t27a : Int) < (↑xs13.length : Int),0 + t27a < xs13.length,(0 : Int) <= (↑t27a : Int) /\ (↑t27a : Int) < (↑d.length : Int),(xs13.getD (0 + t27a) 0 != d.getD t27a 0) = false,(xs13.getD (0 + t27a) 0 != d.getD t27a 0) = false,(xs13.getD (0 + t27a) 0 != d.getD t27a 0) = false,(xs13.getD (0 + t27a) 0 != d.getD t27a 0) = false,(xs13.getD (0 + t27a) 0 != d.getD t27a 0) = false,(!b19) = false,inR ((↑t27a : Int) + (1 : Int))] (PA (decide_eq_true h15) (PA ⟨(by omega),h15⟩ (PO (PA ⟨(by omega),h16⟩ (PA (bne_eq_false_iff_eq.2 h18) (PA (bne_eq_false_iff_eq.2 h18) (PA (bne_eq_false_iff_eq.2 h18) (PA (bne_eq_false_iff_eq.2 h18) (PA (bne_eq_false_iff_eq.2 h18) (PA (not_f h22) (PA ⟨(by omega),h23⟩ trivial))))))))))) (PC c20 PN) LN hq
end
end
theorem zps {Q : Out -> Prop} {n : Int} {d xs13 : List Int} (c14 : Runs X F.z1g [.immI .i64 d] [] (rowR xs13)) {t27a : Nat} (h24 : ¬(↑t27a : Int) < (↑xs13.length : Int)) (hq : Q (z9d).out) : wq F.z1f 0 Tryz.f81 0 (z3j n d xs13 t27a) Q :=
 RS [false] (z9d) [decide ((↑t27a : Int) < (↑xs13.length : Int)) = false] (PA (decide_eq_false h24) trivial) PN LN hq
section
variable {n : Int} {d : List Int} {b1 : Bool} (c2 : Runs X F.z2j [iD n,iD 0,iD 8] [] (boolR b1)) (h4 : b1 = true) {r5 : Int} (c6 : Runs X F.z4j [.immI .i64 d] [] (intR r5)) (h8 : r5 = n) {b9 : Bool} (c10 : Runs X F.z6m [.immI .i64 d] [] (boolR b9)) (h12 : b9 = true) {xs13 : List Int} (c14 : Runs X F.z1g [.immI .i64 d] [] (rowR xs13))
include c2 h4 c6 h8 c10 h12 c14
theorem zpn (l25 : wl F.z1f 0 Tryz.f81 0 (z3j n d xs13 0) z6l) : Runs X F.z1f [alD n d] [] (boolR false) :=
 RG z7y [false,false,false,false,false,false,false,false,false,false,false,false,false] [(!b1) = false,(!b1) = false,(!b1) = false,(!b1) = false,(!b1) = false,(!b1) = false,(!b1) = false,(r5 != n) = false,(r5 != n) = false,(r5 != n) = false,(r5 != n) = false,(r5 != n) = false,(!b9) = false] (PA (not_f h4) (PA (not_f h4) (PA (not_f h4) (PA (not_f h4) (PA (not_f h4) (PA (not_f h4) (PA (not_f h4) (PA (bne_eq_false_iff_eq.2 h8) (PA (bne_eq_false_iff_eq.2 h8) (PA (bne_eq_false_iff_eq.2 h8) (PA (bne_eq_false_iff_eq.2 h8) (PA (bne_eq_false_iff_eq.2 h8) (PA (not_f h12) trivial))))))))))))) (PC c2 (PC c6 (PC c10 (PC c14 PN)))) (LC l25 LN)
theorem zpo (l26 : wl F.z1f 0 Tryz.f81 0 (z3j n d xs13 0) z9d) : Runs X F.z1f [alD n d] [] (boolR true) :=
 RG z7y [false,false,false,false,false,false,false,false,false,false,false,false,false] [(!b1) = false,(!b1) = false,(!b1) = false,(!b1) = false,(!b1) = false,(!b1) = false,(!b1) = false,(r5 != n) = false,(r5 != n) = false,(r5 != n) = false,(r5 != n) = false,(r5 != n) = false,(!b9) = false] (PA (not_f h4) (PA (not_f h4) (PA (not_f h4) (PA (not_f h4) (PA (not_f h4) (PA (not_f h4) (PA (not_f h4) (PA (bne_eq_false_iff_eq.2 h8) (PA (bne_eq_false_iff_eq.2 h8) (PA (bne_eq_false_iff_eq.2 h8) (PA (bne_eq_false_iff_eq.2 h8) (PA (bne_eq_false_iff_eq.2 h8) (PA (not_f h12) trivial))))))))))))) (PC c2 (PC c6 (PC c10 (PC c14 PN)))) (LC l26 LN)
end
theorem zpv : X.ft F.z6m = some Tryz.f113 := by kernel_rfl
theorem zpw {d : List Int} (h1 : (↑d.length : Int) <= (24 : Int)) {r2 : Int} (c3 : Runs X F.z4j [.immI .i64 d] [] (intR r2)) {r4 : Int} (c5 : Runs X F.z5d [iD r2] [] (intR r4)) (h6 : (-9223372036854775808 : Int) <= r4 - (1 : Int)) (h7 : r4 - (1 : Int) <= (9223372036854775807 : Int)) {b8 : Bool} (c9 : Runs X F.z6n [.immI .i64 d,iD 0,iD (r4 - (1 : Int))] [] (boolR b8)) : Runs X F.z6m [.immI .i64 d] [] (boolR b8) :=
 RG zpv [true,true,true,true,true,true,true] [decide ((↑d.length : Int) <= (24 : Int)) = true,decide ((↑d.length : Int) <= (24 : Int)) = true,decide ((↑d.length : Int) <= (24 : Int)) = true,decide ((↑d.length : Int) <= (24 : Int)) = true,decide ((↑d.length : Int) <= (24 : Int)) = true,inR (r4 - (1 : Int)),decide ((↑d.length : Int) <= (24 : Int)) = true,decide ((↑d.length : Int) <= (24 : Int)) = true] (PA (decide_eq_true h1) (PA (decide_eq_true h1) (PA (decide_eq_true h1) (PA (decide_eq_true h1) (PA (decide_eq_true h1) (PA ⟨h6,h7⟩ (PA (decide_eq_true h1) (PA (decide_eq_true h1) trivial)))))))) (PC c3 (PC c5 (PC c9 PN))) LN
theorem zq2 : X.ft F.z6n = some Tryz.f116 := by kernel_rfl
theorem zhv {w : List Int} {a b : Int} {b1 : Bool} (c2 : Runs X F.zeq [.immI .i64 w,.fn F.z29 [.pim [iD a],.pim [iD b]]] [] (boolR b1)) : Runs X F.z6n [.immI .i64 w,iD a,iD b] [] ⟨.bool !b1,[],[]⟩ :=
 RG zq2 [] [] trivial (PC c2 PN) LN
theorem zq3 : X.ft F.z29 = some Tryz.f128 := by kernel_rfl
theorem zq4 {n a b : Int} {b1 : Bool} (c2 : Runs X F.z2j [iD n,iD a,iD b] [] (boolR b1)) : Runs X F.z29 [iD n,.pim [iD a],.pim [iD b]] [] ⟨.bool !b1,[],[]⟩ :=
 RG zq3 [] [] trivial (PC c2 PN) LN
theorem zd7 : X.ft F.zd = some Tryz.f45 := by kernel_rfl
section
variable {n : Int} {d : List Int} {ws : List (List Int)} {b1 : Bool} (c2 : Runs X F.z1f [alD n d] [] (boolR b1))
include c2
theorem zq5 (h3 : b1 = false) : Runs X F.zd [alD n d,.imm2 .i64 ws] [] ⟨iD 1,[],[]⟩ :=
 RG zd7 [true] [(!b1) = true] (PA (not_t h3) trivial) (PC c2 PN) LN
section
variable (h4 : b1 = true) {b5 : Bool} (c6 : Runs X F.zas [.imm2 .i64 ws,.fn F.z20 [.pim [iD n,.immI .i64 d]]] [] (boolR b5))
include h4 c6
theorem zq6 (h7 : b5 = true) : Runs X F.zd [alD n d,.imm2 .i64 ws] [] ⟨iD 2,[],[]⟩ :=
 RG zd7 [false,true] [(!b1) = false,b5 = true] (PA (not_f h4) (PA h7 trivial)) (PC c2 (PC c6 PN)) LN
theorem zq7 (h8 : b5 = false) : Runs X F.zd [alD n d,.imm2 .i64 ws] [] ⟨iD 0,[],[]⟩ :=
 RG zd7 [false,false] [(!b1) = false,b5 = false] (PA (not_f h4) (PA h8 trivial)) (PC c2 (PC c6 PN)) LN
end
end
theorem zq8 : X.ft F.z20 = some Tryz.f83 := by kernel_rfl
theorem zq9 {w : List Int} {n : Int} {d : List Int} {b1 : Bool} (c2 : Runs X F.z6r [alD n d,.immI .i64 w] [] (boolR b1)) : Runs X F.z20 [.immI .i64 w,.pim [iD n,.immI .i64 d]] [] ⟨.bool !b1,[],[]⟩ :=
 RG zq8 [] [] trivial (PC c2 PN) LN
theorem zhw : X.ft F.z7z = some Tryz.f85 := by kernel_rfl
theorem zqa {w : Int} (h1 : w < (0 : Int)) (h2 : (-2 : Int) * w <= (9223372036854775807 : Int)) : Runs X F.z7z [iD w] [] ⟨iD ((-2 : Int) * w - (1 : Int)),[],[]⟩ :=
 RG zhw [true] [decide (w < (0 : Int)) = true,inR ((-2 : Int) * w),inR ((-2 : Int) * w - (1 : Int))] (PA (decide_eq_true h1) (PA ⟨(by omega),h2⟩ (PA ⟨(by omega),(by omega)⟩ trivial))) PN LN
theorem zqb {w : Int} (h3 : ¬w < (0 : Int)) (h4 : (2 : Int) * w <= (9223372036854775807 : Int)) : Runs X F.z7z [iD w] [] ⟨iD ((2 : Int) * w - (2 : Int)),[],[]⟩ :=
 RG zhw [false] [decide (w < (0 : Int)) = false,inR ((2 : Int) * w),inR ((2 : Int) * w - (2 : Int))] (PA (decide_eq_false h3) (PA ⟨(by omega),h4⟩ (PA ⟨(by omega),(by omega)⟩ trivial))) PN LN
theorem zqc : X.ft F.z6 = some Tryz.f46 := by kernel_rfl
def z6o (w : List Int) (t11a : Nat) (r3a : List Int) : LSt := ⟨mkE 22 0 [(3,.rsl 3 0 r3a.length),(9,.immI .i64 w),(10,iD (↑w.length : Int)),(11,iD (↑t11a : Int))],[(3,⟨true,.ints .i64 r3a⟩)]⟩
def zd8 (r3az : List Int) : OutL := .exit 0 ⟨mkE 22 0 [(3,.rsl 3 0 r3az.length)],[(3,⟨true,.ints .i64 r3az⟩)]⟩
section
variable {Q : Out -> Prop} {w : List Int} (h1 : (↑w.length : Int) <= (↑1099511627776 : Int)) {t11a : Nat} {r3a : List Int}
include h1
theorem zqe (h2 : (↑t11a : Int) < (↑w.length : Int)) {r3 : Int} (c4 : Runs X F.z7z [iD (w.getD t11a 0)] [] (intR r3)) (h5 : r3a.length + 1 <= 1099511627776) (hq : wq F.z6 0 Tryz.f46 0 (z6o w (t11a + 1) (r3a ++ [r3])) Q) : wq F.z6 0 Tryz.f46 0 (z6o w t11a r3a) Q :=
 RS [true,true,true,true] (.normal (z6o w (t11a + 1) (r3a ++ [r3]))) [decide ((↑t11a : Int) < (↑w.length : Int)) = true,(0 : Int) <= (↑t11a : Int) /\ (↑t11a : Int) < (↑w.length : Int),1 <= 1,0 = 0 /\ 1 = 1,0 + r3a.length = r3a.length /\ r3a.length + 1 <= 1099511627776,0 = 0 /\ r3a.length = r3a.length,inR ((↑t11a : Int) + (1 : Int))] (PA (decide_eq_true h2) (PA ⟨(by omega),h2⟩ (PO (PA ⟨(by omega),(by first|omega|simp)⟩ (PA ⟨(by first|omega|simp),h5⟩ (PA ⟨(by first|omega|simp),(by omega)⟩ (PA ⟨(by omega),(by first|omega|simp)⟩ trivial))))))) (PC c4 PN) LN hq
theorem zqf (h6 : ¬(↑t11a : Int) < (↑w.length : Int)) (hq : Q (zd8 r3a).out) : wq F.z6 0 Tryz.f46 0 (z6o w t11a r3a) Q :=
 RS [false] (zd8 r3a) [decide ((↑t11a : Int) < (↑w.length : Int)) = false] (PA (decide_eq_false h6) trivial) PN LN hq
end
theorem zqd {w : List Int} (h1 : (↑w.length : Int) <= (↑1099511627776 : Int)) {r3az : List Int} (l7 : wl F.z6 0 Tryz.f46 0 (z6o w 0 []) (zd8 r3az)) : Runs X F.z6 [.immI .i64 w] [] (rowR r3az) :=
 RG zqc [] [(0 : Int) <= (0 : Int) /\ (0 : Int) <= (↑w.length : Int) /\ (↑w.length : Int) <= (↑1099511627776 : Int)] (PA ⟨(by omega),⟨(by omega),h1⟩⟩ trivial) PN (LC l7 LN)
theorem zqi : X.ft F.z1g = some Tryz.f114 := by kernel_rfl
def z6p (d : List Int) (t13a : Nat) (r3a : List Int) : LSt := ⟨mkE 36 0 [(3,.rsl 3 0 d.length),(11,.immI .i64 d),(12,iD (↑d.length : Int)),(13,iD (↑t13a : Int))],[(3,⟨true,.ints .i64 r3a⟩)]⟩
def zd9 (d r3az : List Int) : OutL := .exit 0 ⟨mkE 36 0 [(3,.rsl 3 0 d.length)],[(3,⟨true,.ints .i64 r3az⟩)]⟩
def z5c (d : List Int) (t13a : Nat) (xs4 : List Int) (t21b : Nat) (r3b : List Int) : LSt := ⟨mkE 36 0 [(3,.rsl 3 0 d.length),(4,iD (↑t13a : Int)),(11,.immI .i64 d),(12,iD (↑d.length : Int)),(13,iD (↑t13a : Int)),(19,.rsl 1019 0 xs4.length),(20,iD (↑xs4.length : Int)),(21,iD (↑t21b : Int))],[(3,⟨true,.ints .i64 r3b⟩),(1019,⟨true,.ints .i64 xs4⟩)]⟩
def z9g (d : List Int) (t13a : Nat) (r3bz : List Int) : OutL := .exit 2 ⟨mkE 36 0 [(3,.rsl 3 0 d.length),(11,.immI .i64 d),(12,iD (↑d.length : Int)),(13,iD (↑t13a : Int))],[(3,⟨true,.ints .i64 r3bz⟩)]⟩
section
variable {Q : Out -> Prop} {d : List Int} (h1 : (↑d.length : Int) <= (↑1099511627776 : Int)) {t13a : Nat}
include h1
section
variable (h3 : (↑t13a : Int) < (↑d.length : Int)) {xs4 : List Int} (c5 : Runs X F.z19 [iD (d.getD t13a 0)] [] (rowR xs4)) {t21b : Nat} {r3b : List Int} (e6 : r3b.length = d.length)
include h3 c5 e6
theorem zqm (h7 : (↑t21b : Int) < (↑xs4.length : Int)) (h8 : (0 : Int) <= xs4.getD (0 + t21b) 0) (h9 : xs4.getD (0 + t21b) 0 < (↑d.length : Int)) {r10 : Int} (c11 : Runs X F.z5d [iD (↑t13a : Int)] [] (intR r10)) (h12 : (↑t21b : Int) + (1 : Int) <= (9223372036854775807 : Int)) (hq : wq F.z1g 2 Tryz.f114 1 (z5c d t13a xs4 (t21b + 1) (r3b.set (0 + (xs4.getD (0 + t21b) 0).toNat) (ior (r3b.getD (0 + (xs4.getD (0 + t21b) 0).toNat) (0 : Int)) r10))) Q) : wq F.z1g 2 Tryz.f114 1 (z5c d t13a xs4 t21b r3b) Q :=
 RS [true] (.normal (z5c d t13a xs4 (t21b + 1) (r3b.set (0 + (xs4.getD (0 + t21b) 0).toNat) (ior (r3b.getD (0 + (xs4.getD (0 + t21b) 0).toNat) (0 : Int)) r10)))) [decide ((↑t21b : Int) < (↑xs4.length : Int)) = true,(0 : Int) <= (↑t21b : Int) /\ (↑t21b : Int) < (↑xs4.length : Int),0 + t21b < xs4.length,(0 : Int) <= xs4.getD (0 + t21b) 0 /\ xs4.getD (0 + t21b) 0 < (↑d.length : Int),0 + (xs4.getD (0 + t21b) 0).toNat < r3b.length,(0 : Int) <= xs4.getD (0 + t21b) 0 /\ xs4.getD (0 + t21b) 0 < (↑d.length : Int),0 + (xs4.getD (0 + t21b) 0).toNat < r3b.length,inR ((↑t21b : Int) + (1 : Int))] (PA (decide_eq_true h7) (PA ⟨(by omega),h7⟩ (PO (PA ⟨h8,h9⟩ (PO (PA ⟨h8,h9⟩ (PO (PA ⟨(by omega),h12⟩ trivial)))))))) (PC c11 PN) LN hq
theorem zqn (h13 : ¬(↑t21b : Int) < (↑xs4.length : Int)) (hq : Q (z9g d t13a r3b).out) : wq F.z1g 2 Tryz.f114 1 (z5c d t13a xs4 t21b r3b) Q :=
 RS [false] (z9g d t13a r3b) [decide ((↑t21b : Int) < (↑xs4.length : Int)) = false] (PA (decide_eq_false h13) trivial) PN LN hq
end
section
variable {r3a : List Int} (e2 : r3a.length = d.length)
include e2
theorem zqk (h3 : (↑t13a : Int) < (↑d.length : Int)) {xs4 : List Int} (c5 : Runs X F.z19 [iD (d.getD t13a 0)] [] (rowR xs4)) {r3bz : List Int} (l14 : wl F.z1g 2 Tryz.f114 1 (z5c d t13a xs4 0 r3a) (z9g d t13a r3bz)) (hq : wq F.z1g 0 Tryz.f114 0 (z6p d (t13a + 1) r3bz) Q) : wq F.z1g 0 Tryz.f114 0 (z6p d t13a r3a) Q :=
 RS [true] (.normal (z6p d (t13a + 1) r3bz)) [decide ((↑t13a : Int) < (↑d.length : Int)) = true,(0 : Int) <= (↑t13a : Int) /\ (↑t13a : Int) < (↑d.length : Int),inR ((↑t13a : Int) + (1 : Int))] (PA (decide_eq_true h3) (PA ⟨(by omega),h3⟩ (PA ⟨(by omega),(by first|omega|simp)⟩ trivial))) (PC c5 PN) (LC l14 LN) hq
theorem zql (h15 : ¬(↑t13a : Int) < (↑d.length : Int)) (hq : Q (zd9 d r3a).out) : wq F.z1g 0 Tryz.f114 0 (z6p d t13a r3a) Q :=
 RS [false] (zd9 d r3a) [decide ((↑t13a : Int) < (↑d.length : Int)) = false] (PA (decide_eq_false h15) trivial) PN LN hq
end
end
theorem zqj {d : List Int} (h1 : (↑d.length : Int) <= (↑1099511627776 : Int)) {r3az : List Int} (l16 : wl F.z1g 0 Tryz.f114 0 (z6p d 0 (List.replicate d.length (0 : Int))) (zd9 d r3az)) : Runs X F.z1g [.immI .i64 d] [] ⟨.rsl 600000 0 d.length,[],[⟨true,.ints .i64 r3az⟩]⟩ :=
 RG zqi [] [(0 : Int) <= (↑d.length : Int) /\ (↑d.length : Int) <= (↑d.length : Int) /\ (↑d.length : Int) <= (↑1099511627776 : Int)] (PA ⟨(by omega),⟨(by omega),h1⟩⟩ trivial) PN (LC l16 LN)
theorem zhx : X.ft F.z4i = some Tryz.f29 := by kernel_rfl
theorem zqo {w : List Int} (h1 : (↑w.length : Int) > (24 : Int)) : Runs X F.z4i [.immI .i64 w] [] ⟨.tup [.rsl 600000 0 0,iD 3],[],[⟨true,.ints .i64 []⟩]⟩ :=
 RG zhx [true] [decide ((↑w.length : Int) > (24 : Int)) = true] (PA (decide_eq_true h1) trivial) PN LN
theorem zqp {w : List Int} (h2 : ¬(↑w.length : Int) > (24 : Int)) {xs3 : List Int} (c4 : Runs X F.z4k [.immI .i64 w] [] (rowR xs3)) : Runs X F.z4i [.immI .i64 w] [] ⟨.tup [.rsl 600000 0 xs3.length,iD 0],[],[⟨true,.ints .i64 xs3⟩]⟩ :=
 RG zhx [false] [decide ((↑w.length : Int) > (24 : Int)) = false] (PA (decide_eq_false h2) trivial) (PC c4 PN) LN
theorem zqq : X.ft F.z21 = some Tryz.f48 := by kernel_rfl
theorem zqr {m i : Int} (h1 : (0 : Int) <= i) : Runs X F.z21 [iD m,iD i] [] ⟨.bool (iand (ishr m i) (1 : Int) == (1 : Int)),[],[]⟩ :=
 RG zqq [] [(0 : Int) <= i] (PA h1 trivial) PN LN
theorem zhy : X.ft F.z2j = some Tryz.f86 := by kernel_rfl
theorem zqs {n a b : Int} (h1 : a <= n) : Runs X F.z2j [iD n,iD a,iD b] [] ⟨.bool (decide (n <= b)),[],[]⟩ :=
 RG zhy [true,true,true,true] [decide (a <= n) = true,decide (a <= n) = true,decide (a <= n) = true,decide (a <= n) = true] (PA (decide_eq_true h1) (PA (decide_eq_true h1) (PA (decide_eq_true h1) (PA (decide_eq_true h1) trivial)))) PN LN
theorem zqt {n a b : Int} (h2 : ¬a <= n) : Runs X F.z2j [iD n,iD a,iD b] [] (boolR false) :=
 RG zhy [false,false,false,false] [decide (a <= n) = false,decide (a <= n) = false,decide (a <= n) = false,decide (a <= n) = false] (PA (decide_eq_false h2) (PA (decide_eq_false h2) (PA (decide_eq_false h2) (PA (decide_eq_false h2) trivial)))) PN LN
theorem zqu : X.ft F.z33 = some Tryz.f33 := by kernel_rfl
def z6q (xs1 : List Int) (t9a : Nat) (r3a : List Int) : LSt := ⟨mkE 20 0 [(3,.rsl 3 0 xs1.length),(8,iD (↑xs1.length : Int)),(9,iD (↑t9a : Int))],[(3,⟨true,.ints .i64 r3a⟩)]⟩
def z9h (xs1 r3az : List Int) : OutL := .exit 0 ⟨mkE 20 0 [(3,.rsl 3 0 xs1.length)],[(3,⟨true,.ints .i64 r3az⟩)]⟩
section
variable {Q : Out -> Prop} {xs1 : List Int} {t9a : Nat} {r3a : List Int} (e3 : r3a.length = xs1.length)
include e3
theorem zqw (h4 : (↑t9a : Int) < (↑xs1.length : Int)) (h5 : (↑t9a : Int) + (1 : Int) <= (9223372036854775807 : Int)) (hq : wq F.z33 0 Tryz.f33 0 (z6q xs1 (t9a + 1) (r3a.set (0 + t9a) (ixor (r3a.getD (0 + t9a) 0) (1 : Int)))) Q) : wq F.z33 0 Tryz.f33 0 (z6q xs1 t9a r3a) Q :=
 RS [true] (.normal (z6q xs1 (t9a + 1) (r3a.set (0 + t9a) (ixor (r3a.getD (0 + t9a) 0) (1 : Int))))) [decide ((↑t9a : Int) < (↑xs1.length : Int)) = true,(0 : Int) <= (↑t9a : Int) /\ (↑t9a : Int) < (↑xs1.length : Int),0 + t9a < r3a.length,(0 : Int) <= (↑t9a : Int) /\ (↑t9a : Int) < (↑xs1.length : Int),0 + t9a < r3a.length,inR ((↑t9a : Int) + (1 : Int))] (PA (decide_eq_true h4) (PA ⟨(by omega),h4⟩ (PO (PA ⟨(by omega),h4⟩ (PO (PA ⟨(by omega),h5⟩ trivial)))))) PN LN hq
theorem zqx (h6 : ¬(↑t9a : Int) < (↑xs1.length : Int)) (hq : Q (z9h xs1 r3a).out) : wq F.z33 0 Tryz.f33 0 (z6q xs1 t9a r3a) Q :=
 RS [false] (z9h xs1 r3a) [decide ((↑t9a : Int) < (↑xs1.length : Int)) = false] (PA (decide_eq_false h6) trivial) PN LN hq
end
theorem zqv {w xs1 : List Int} (c2 : Runs X F.z5e [.immI .i64 w] [] (rowR xs1)) {r3az : List Int} (l7 : wl F.z33 0 Tryz.f33 0 (z6q xs1 0 xs1) (z9h xs1 r3az)) : Runs X F.z33 [.immI .i64 w] [] ⟨.rsl 600000 0 xs1.length,[],[⟨true,.ints .i64 r3az⟩]⟩ :=
 RG zqu [] [] trivial (PC c2 PN) (LC l7 LN)
theorem zda : X.ft F.z6r = some Tryz.f84 := by kernel_rfl
section
variable {n : Int} {d w : List Int} (h1 : (↑w.length : Int) <= (24 : Int)) (h2 : (-9223372036854775808 : Int) <= -n) (h3 : -n <= (9223372036854775807 : Int)) {b4 : Bool} (c5 : Runs X F.z6n [.immI .i64 w,iD (-n),iD n] [] (boolR b4))
include h1 h2 h3 c5
theorem zqy (h6 : b4 = true) {b7 : Bool} (c8 : Runs X F.zat [.immI .i64 w,iD 0] [] (boolR b7)) : Runs X F.z6r [alD n d,.immI .i64 w] [] ⟨.bool !b7,[],[]⟩ :=
 RG zda [true,true,true,true,true,true,true,true,true,true,true,true] [decide ((↑w.length : Int) <= (24 : Int)) = true,decide ((↑w.length : Int) <= (24 : Int)) = true,decide ((↑w.length : Int) <= (24 : Int)) = true,decide ((↑w.length : Int) <= (24 : Int)) = true,inR (-n),decide ((↑w.length : Int) <= (24 : Int)) = true,decide ((↑w.length : Int) <= (24 : Int)) = true,decide ((↑w.length : Int) <= (24 : Int)) = true,decide ((↑w.length : Int) <= (24 : Int)) = true,b4 = true,b4 = true,b4 = true,b4 = true] (PA (decide_eq_true h1) (PA (decide_eq_true h1) (PA (decide_eq_true h1) (PA (decide_eq_true h1) (PA ⟨h2,h3⟩ (PA (decide_eq_true h1) (PA (decide_eq_true h1) (PA (decide_eq_true h1) (PA (decide_eq_true h1) (PA h6 (PA h6 (PA h6 (PA h6 trivial))))))))))))) (PC c5 (PC c8 PN)) LN
theorem zqz (h9 : b4 = false) : Runs X F.z6r [alD n d,.immI .i64 w] [] (boolR false) :=
 RG zda [true,true,true,true,true,true,true,true,false,false,false,false] [decide ((↑w.length : Int) <= (24 : Int)) = true,decide ((↑w.length : Int) <= (24 : Int)) = true,decide ((↑w.length : Int) <= (24 : Int)) = true,decide ((↑w.length : Int) <= (24 : Int)) = true,inR (-n),decide ((↑w.length : Int) <= (24 : Int)) = true,decide ((↑w.length : Int) <= (24 : Int)) = true,decide ((↑w.length : Int) <= (24 : Int)) = true,decide ((↑w.length : Int) <= (24 : Int)) = true,b4 = false,b4 = false,b4 = false,b4 = false] (PA (decide_eq_true h1) (PA (decide_eq_true h1) (PA (decide_eq_true h1) (PA (decide_eq_true h1) (PA ⟨h2,h3⟩ (PA (decide_eq_true h1) (PA (decide_eq_true h1) (PA (decide_eq_true h1) (PA (decide_eq_true h1) (PA h9 (PA h9 (PA h9 (PA h9 trivial))))))))))))) (PC c5 PN) LN
end
theorem zr0 {n : Int} {d w : List Int} (h10 : ¬(↑w.length : Int) <= (24 : Int)) : Runs X F.z6r [alD n d,.immI .i64 w] [] (boolR false) :=
 RG zda [false,false,false,false,false,false,false,false,false,false,false,false] [decide ((↑w.length : Int) <= (24 : Int)) = false,decide ((↑w.length : Int) <= (24 : Int)) = false,decide ((↑w.length : Int) <= (24 : Int)) = false,decide ((↑w.length : Int) <= (24 : Int)) = false,decide ((↑w.length : Int) <= (24 : Int)) = false,decide ((↑w.length : Int) <= (24 : Int)) = false,decide ((↑w.length : Int) <= (24 : Int)) = false,decide ((↑w.length : Int) <= (24 : Int)) = false,false = false,false = false,false = false,false = false] (PA (decide_eq_false h10) (PA (decide_eq_false h10) (PA (decide_eq_false h10) (PA (decide_eq_false h10) (PA (decide_eq_false h10) (PA (decide_eq_false h10) (PA (decide_eq_false h10) (PA (decide_eq_false h10) (PO (PO (PO (PO trivial)))))))))))) PN LN
theorem zr1 : X.ft F.z6s = some Tryz.f93 := by kernel_rfl
theorem zr2 {m r1 : Int} (c2 : Runs X F.z8y [.int .u64 (IntKind.u64.wrap m)] [] (intR r1)) : Runs X F.z6s [iD m] [] (intR r1) :=
 RG zr1 [] [] trivial (PC c2 PN) LN
theorem zr3 : X.ft F.z4j = some Tryz.f112 := by kernel_rfl
theorem zr4 {w : List Int} : Runs X F.z4j [.immI .i64 w] [] ⟨iD (↑w.length : Int),[],[]⟩ :=
 RG zr3 [] [] trivial PN LN
theorem zr5 : X.ft F.z19 = some Tryz.f70 := by kernel_rfl
def z6t (t0a : Int) (r3a : List Int) : LSt := ⟨mkE 17 0 [(0,iD t0a),(3,.rsl 3 0 r3a.length)],[(3,⟨true,.ints .i64 r3a⟩)]⟩
def z9i (r3az : List Int) : OutL := .exit 0 ⟨mkE 17 0 [(3,.rsl 3 0 r3az.length)],[(3,⟨true,.ints .i64 r3az⟩)]⟩
section
variable {Q : Out -> Prop} {t0a : Int} {r3a : List Int}
theorem zr7 (h1 : ¬t0a = 0) {r2 : Int} (c3 : Runs X F.z6s [iD t0a] [] (intR r2)) (h4 : r3a.length + 1 <= 1099511627776) (h5 : (-9223372036854775808 : Int) <= t0a - (1 : Int)) (h6 : t0a - (1 : Int) <= (9223372036854775807 : Int)) (hq : wq F.z19 0 Tryz.f70 0 (z6t (iand t0a (t0a - (1 : Int))) (r3a ++ [r2])) Q) : wq F.z19 0 Tryz.f70 0 (z6t t0a r3a) Q :=
 RS [true,true,true,true] (.normal (z6t (iand t0a (t0a - (1 : Int))) (r3a ++ [r2]))) [(t0a != (0 : Int)) = true,1 <= 1,0 = 0 /\ 1 = 1,0 + r3a.length = r3a.length /\ r3a.length + 1 <= 1099511627776,0 = 0 /\ r3a.length = r3a.length,inR (t0a - (1 : Int))] (PA (bne_iff_ne.2 h1) (PO (PA ⟨(by omega),(by first|omega|simp)⟩ (PA ⟨(by first|omega|simp),h4⟩ (PA ⟨(by first|omega|simp),(by omega)⟩ (PA ⟨h5,h6⟩ trivial)))))) (PC c3 PN) LN hq
theorem zhz (h7 : t0a = 0) (hq : Q (z9i r3a).out) : wq F.z19 0 Tryz.f70 0 (z6t t0a r3a) Q :=
 RS [false] (z9i r3a) [(t0a != (0 : Int)) = false] (PA (bne_eq_false_iff_eq.2 h7) trivial) PN LN hq
end
theorem zr6 {m : Int} {r3az : List Int} (l8 : wl F.z19 0 Tryz.f70 0 (z6t m []) (z9i r3az)) : Runs X F.z19 [iD m] [] (rowR r3az) :=
 RG zr5 [] [] trivial PN (LC l8 LN)
theorem zr8 : X.ft F.z5d = some Tryz.f87 := by kernel_rfl
theorem zr9 {i : Int} (h1 : (0 : Int) <= i) (h2 : (-9223372036854775808 : Int) <= ishl (1 : Int) i) (h3 : ishl (1 : Int) i <= (9223372036854775807 : Int)) : Runs X F.z5d [iD i] [] ⟨iD (ishl (1 : Int) i),[],[]⟩ :=
 RG zr8 [] [(0 : Int) <= i,inR (ishl (1 : Int) i)] (PA h1 (PA ⟨h2,h3⟩ trivial)) PN LN
theorem zra : X.ft F.z5e = some Tryz.f73 := by kernel_rfl
theorem zrb {w xs1 : List Int} (c2 : Runs X F.z4w [.immI .i64 w] [] (rowR xs1)) {xs3 : List Int} (c4 : Runs X F.z3x [.rsl 500000 0 xs1.length] [⟨true,.ints .i64 xs1⟩] ⟨.tup [],[some ⟨true,.ints .i64 xs3⟩],[]⟩) : Runs X F.z5e [.immI .i64 w] [] ⟨.rsl 600000 0 xs1.length,[],[⟨true,.ints .i64 xs3⟩]⟩ :=
 RG zra [] [] trivial (PC c2 (PC c4 PN)) LN
theorem zi0 : X.ft F.z80 = some Tryz.f104 := by kernel_rfl
theorem zrc {w : Int} (h1 : w.tmod (2 : Int) = 1) (h2 : (-9223372036854775808 : Int) <= w.tdiv (2 : Int)) (h3 : w.tdiv (2 : Int) <= (9223372036854775807 : Int)) (h4 : w.tdiv (2 : Int) + (1 : Int) <= (9223372036854775807 : Int)) : Runs X F.z80 [iD w] [] ⟨iD (-(w.tdiv (2 : Int) + (1 : Int))),[],[]⟩ :=
 RG zi0 [true] [(2 : Int) ≠ (0 : Int),(w.tmod (2 : Int) == (1 : Int)) = true,(2 : Int) ≠ (0 : Int),inR (w.tdiv (2 : Int)),inR (w.tdiv (2 : Int) + (1 : Int)),inR (-(w.tdiv (2 : Int) + (1 : Int)))] (PO (PA (beq_iff_eq.2 h1) (PO (PA ⟨h2,h3⟩ (PA ⟨(by omega),h4⟩ (PA ⟨(by omega),(by omega)⟩ trivial)))))) PN LN
theorem zrd {w : Int} (h5 : ¬w.tmod (2 : Int) = 1) (h6 : (-9223372036854775808 : Int) <= w.tdiv (2 : Int)) (h7 : w.tdiv (2 : Int) <= (9223372036854775807 : Int)) (h8 : w.tdiv (2 : Int) + (1 : Int) <= (9223372036854775807 : Int)) : Runs X F.z80 [iD w] [] ⟨iD (w.tdiv (2 : Int) + (1 : Int)),[],[]⟩ :=
 RG zi0 [false] [(2 : Int) ≠ (0 : Int),(w.tmod (2 : Int) == (1 : Int)) = false,(2 : Int) ≠ (0 : Int),inR (w.tdiv (2 : Int)),inR (w.tdiv (2 : Int) + (1 : Int))] (PO (PA (beq_false_of_ne h5) (PO (PA ⟨h6,h7⟩ (PA ⟨(by omega),h8⟩ trivial))))) PN LN
theorem zre : X.ft F.ze = some Tryz.f30 := by kernel_rfl
def z6u (d : List Int) (t13a : Nat) (r3a : List Int) : LSt := ⟨mkE 37 0 [(3,.rsl 3 0 r3a.length),(11,.immI .i64 d),(12,iD (↑d.length : Int)),(13,iD (↑t13a : Int))],[(3,⟨true,.ints .i64 r3a⟩)]⟩
def zdb (r3az : List Int) : OutL := .exit 0 ⟨mkE 37 0 [(3,.rsl 3 0 r3az.length)],[(3,⟨true,.ints .i64 r3az⟩)]⟩
def z5f (d : List Int) (t13a : Nat) (r3a xs2 : List Int) (t6b : Int) (t20b : Nat) : LSt := ⟨mkE 37 0 [(3,.rsl 3 0 r3a.length),(6,iD t6b),(11,.immI .i64 d),(12,iD (↑d.length : Int)),(13,iD (↑t13a : Int)),(18,.rsl 1018 0 xs2.length),(19,iD (↑xs2.length : Int)),(20,iD (↑t20b : Int))],[(3,⟨true,.ints .i64 r3a⟩),(1018,⟨true,.ints .i64 xs2⟩)]⟩
def z81 (d : List Int) (t13a : Nat) (r3a : List Int) (t6bz : Int) : OutL := .exit 2 ⟨mkE 37 0 [(3,.rsl 3 0 r3a.length),(6,iD t6bz),(11,.immI .i64 d),(12,iD (↑d.length : Int)),(13,iD (↑t13a : Int))],[(3,⟨true,.ints .i64 r3a⟩)]⟩
section
variable {Q : Out -> Prop} {d : List Int} {t13a : Nat} {r3a : List Int} (h1 : (↑t13a : Int) < (↑d.length : Int)) {xs2 : List Int} (c3 : Runs X F.z19 [iD (d.getD t13a 0)] [] (rowR xs2))
include h1 c3
theorem zri {t6b : Int} {t20b : Nat} (h4 : (↑t20b : Int) < (↑xs2.length : Int)) (h5 : (-9223372036854775808 : Int) <= (2 : Int) * xs2.getD (0 + t20b) 0) (h6 : (2 : Int) * xs2.getD (0 + t20b) 0 <= (9223372036854775807 : Int)) (h7 : (0 : Int) <= (2 : Int) * xs2.getD (0 + t20b) 0) (h8 : (-9223372036854775808 : Int) <= ishl (3 : Int) ((2 : Int) * xs2.getD (0 + t20b) 0)) (h9 : ishl (3 : Int) ((2 : Int) * xs2.getD (0 + t20b) 0) <= (9223372036854775807 : Int)) (h10 : (↑t20b : Int) + (1 : Int) <= (9223372036854775807 : Int)) (hq : wq F.ze 2 Tryz.f30 1 (z5f d t13a r3a xs2 (ior t6b (ishl (3 : Int) ((2 : Int) * xs2.getD (0 + t20b) 0))) (t20b + 1)) Q) : wq F.ze 2 Tryz.f30 1 (z5f d t13a r3a xs2 t6b t20b) Q :=
 RS [true] (.normal (z5f d t13a r3a xs2 (ior t6b (ishl (3 : Int) ((2 : Int) * xs2.getD (0 + t20b) 0))) (t20b + 1))) [decide ((↑t20b : Int) < (↑xs2.length : Int)) = true,(0 : Int) <= (↑t20b : Int) /\ (↑t20b : Int) < (↑xs2.length : Int),0 + t20b < xs2.length,inR ((2 : Int) * xs2.getD (0 + t20b) 0),(0 : Int) <= (2 : Int) * xs2.getD (0 + t20b) 0,inR (ishl (3 : Int) ((2 : Int) * xs2.getD (0 + t20b) 0)),inR ((↑t20b : Int) + (1 : Int))] (PA (decide_eq_true h4) (PA ⟨(by omega),h4⟩ (PO (PA ⟨h5,h6⟩ (PA h7 (PA ⟨h8,h9⟩ (PA ⟨(by omega),h10⟩ trivial))))))) PN LN hq
theorem zrj {t6b : Int} {t20b : Nat} (h11 : ¬(↑t20b : Int) < (↑xs2.length : Int)) (hq : Q (z81 d t13a r3a t6b).out) : wq F.ze 2 Tryz.f30 1 (z5f d t13a r3a xs2 t6b t20b) Q :=
 RS [false] (z81 d t13a r3a t6b) [decide ((↑t20b : Int) < (↑xs2.length : Int)) = false] (PA (decide_eq_false h11) trivial) PN LN hq
theorem zrg {t6bz : Int} (l12 : wl F.ze 2 Tryz.f30 1 (z5f d t13a r3a xs2 (0 : Int) 0) (z81 d t13a r3a t6bz)) (h13 : r3a.length + ([t6bz] ++ [t6bz]).length <= 1099511627776) (h14 : (↑t13a : Int) + (1 : Int) <= (9223372036854775807 : Int)) (hq : wq F.ze 0 Tryz.f30 0 (z6u d (t13a + 1) (r3a ++ ([t6bz] ++ [t6bz]))) Q) : wq F.ze 0 Tryz.f30 0 (z6u d t13a r3a) Q :=
 RS [true,true,true,true] (.normal (z6u d (t13a + 1) (r3a ++ ([t6bz] ++ [t6bz])))) [decide ((↑t13a : Int) < (↑d.length : Int)) = true,(0 : Int) <= (↑t13a : Int) /\ (↑t13a : Int) < (↑d.length : Int),2 <= ([t6bz] ++ [t6bz]).length,0 = 0 /\ 2 = ([t6bz] ++ [t6bz]).length,0 + r3a.length = r3a.length /\ r3a.length + ([t6bz] ++ [t6bz]).length <= 1099511627776,0 = 0 /\ r3a.length = r3a.length,inR ((↑t13a : Int) + (1 : Int))] (PA (decide_eq_true h1) (PA ⟨(by omega),h1⟩ (PO (PA ⟨(by omega),(by first|omega|simp)⟩ (PA ⟨(by first|omega|simp),h13⟩ (PA ⟨(by first|omega|simp),(by omega)⟩ (PA ⟨(by omega),h14⟩ trivial))))))) (PC c3 PN) (LC l12 LN) hq
end
theorem zrh {Q : Out -> Prop} {d : List Int} {t13a : Nat} {r3a : List Int} (h15 : ¬(↑t13a : Int) < (↑d.length : Int)) (hq : Q (zdb r3a).out) : wq F.ze 0 Tryz.f30 0 (z6u d t13a r3a) Q :=
 RS [false] (zdb r3a) [decide ((↑t13a : Int) < (↑d.length : Int)) = false] (PA (decide_eq_false h15) trivial) PN LN hq
theorem zrf {n : Int} {d r3az : List Int} (l16 : wl F.ze 0 Tryz.f30 0 (z6u d 0 []) (zdb r3az)) : Runs X F.ze [alD n d] [] (rowR r3az) :=
 RG zre [] [] trivial PN (LC l16 LN)
theorem zrk : X.ft F.z4k = some Tryz.f63 := by kernel_rfl
def z6v (w : List Int) (t11a : Nat) (r3a : List Int) : LSt := ⟨mkE 22 0 [(3,.rsl 3 0 r3a.length),(9,.immI .i64 w),(10,iD (↑w.length : Int)),(11,iD (↑t11a : Int))],[(3,⟨true,.ints .i64 r3a⟩)]⟩
def zdc (r3az : List Int) : OutL := .exit 0 ⟨mkE 22 0 [(3,.rsl 3 0 r3az.length)],[(3,⟨true,.ints .i64 r3az⟩)]⟩
section
variable {Q : Out -> Prop} {w : List Int} (h1 : (↑w.length : Int) <= (↑1099511627776 : Int)) {t11a : Nat} {r3a : List Int}
include h1
theorem zrm (h2 : (↑t11a : Int) < (↑w.length : Int)) {r3 : Int} (c4 : Runs X F.z80 [iD (w.getD t11a 0)] [] (intR r3)) (h5 : r3a.length + 1 <= 1099511627776) (hq : wq F.z4k 0 Tryz.f63 0 (z6v w (t11a + 1) (r3a ++ [r3])) Q) : wq F.z4k 0 Tryz.f63 0 (z6v w t11a r3a) Q :=
 RS [true,true,true,true] (.normal (z6v w (t11a + 1) (r3a ++ [r3]))) [decide ((↑t11a : Int) < (↑w.length : Int)) = true,(0 : Int) <= (↑t11a : Int) /\ (↑t11a : Int) < (↑w.length : Int),1 <= 1,0 = 0 /\ 1 = 1,0 + r3a.length = r3a.length /\ r3a.length + 1 <= 1099511627776,0 = 0 /\ r3a.length = r3a.length,inR ((↑t11a : Int) + (1 : Int))] (PA (decide_eq_true h2) (PA ⟨(by omega),h2⟩ (PO (PA ⟨(by omega),(by first|omega|simp)⟩ (PA ⟨(by first|omega|simp),h5⟩ (PA ⟨(by first|omega|simp),(by omega)⟩ (PA ⟨(by omega),(by first|omega|simp)⟩ trivial))))))) (PC c4 PN) LN hq
theorem zrn (h6 : ¬(↑t11a : Int) < (↑w.length : Int)) (hq : Q (zdc r3a).out) : wq F.z4k 0 Tryz.f63 0 (z6v w t11a r3a) Q :=
 RS [false] (zdc r3a) [decide ((↑t11a : Int) < (↑w.length : Int)) = false] (PA (decide_eq_false h6) trivial) PN LN hq
end
theorem zrl {w : List Int} (h1 : (↑w.length : Int) <= (↑1099511627776 : Int)) {r3az : List Int} (l7 : wl F.z4k 0 Tryz.f63 0 (z6v w 0 []) (zdc r3az)) : Runs X F.z4k [.immI .i64 w] [] (rowR r3az) :=
 RG zrk [] [(0 : Int) <= (0 : Int) /\ (0 : Int) <= (↑w.length : Int) /\ (↑w.length : Int) <= (↑1099511627776 : Int)] (PA ⟨(by omega),⟨(by omega),h1⟩⟩ trivial) PN (LC l7 LN)
theorem zrt : X.ft F.z9 = some Tryz.f62 := by kernel_rfl
def z6w (t r6a r7a : List Int) : LSt := ⟨mkE 49 0 [(0,.immI .i64 t),(6,.rsl 6 0 r6a.length),(7,.rsl 7 0 r7a.length)],[(6,⟨true,.ints .i64 r6a⟩),(7,⟨true,.ints .i64 r7a⟩)]⟩
def z9n (r4az r5az : List Int) : OutL := .ret ⟨mkE 49 0 [(4,.rsl 4 0 r4az.length),(5,.rsl 5 0 r5az.length)],[(4,⟨true,.ints .i64 r4az⟩),(5,⟨true,.ints .i64 r5az⟩)]⟩
section
variable {Q : Out -> Prop} {t r6a r7a : List Int} {r3 : Int} (c4 : Runs X F.z9q [.immI .i64 t,.immI .i64 r6a] [] (intR r3)) {r5 : Int} (c6 : Runs X F.z1a [.immI .i64 t,.immI .i64 r6a] [] (intR r5)) {xs7 : List Int} (c8 : Runs X F.z19 [iD r5] [] (rowR xs7)) {r9 : Int} (c10 : Runs X F.zt [.immI .i64 xs7,.fn F.z2l [.pim [iD r3]]] [] (intR r9))
include c4 c6 c8 c10
theorem zi6 (h11 : r9 < (0 : Int)) {xs12 : List Int} (c13 : Runs X F.z1n [.immI .i64 t,.immI .i64 r6a] [] (rowR xs12)) {xs14 : List Int} (c15 : Runs X F.zk [.immI .i64 t,.immI .i64 r7a] [] (rowR xs14)) (hq : Q (z9n xs12 xs14).out) : wq F.z9 0 Tryz.f62 0 (z6w t r6a r7a) Q :=
 RS [true,true,true,true,true,true] (z9n xs12 xs14) [0 + r6a.length <= r6a.length,0 = 0 /\ r6a.length = r6a.length,0 + r6a.length <= r6a.length,0 = 0 /\ r6a.length = r6a.length,0 + xs7.length <= xs7.length,0 = 0 /\ xs7.length = xs7.length,decide (r9 < (0 : Int)) = true,0 + r6a.length <= r6a.length,0 = 0 /\ r6a.length = r6a.length,0 + r7a.length <= r7a.length,0 = 0 /\ r7a.length = r7a.length] (PO (PA ⟨(by first|omega|simp),(by omega)⟩ (PO (PA ⟨(by first|omega|simp),(by omega)⟩ (PO (PA ⟨(by first|omega|simp),(by omega)⟩ (PA (decide_eq_true h11) (PO (PA ⟨(by first|omega|simp),(by omega)⟩ (PO (PA ⟨(by first|omega|simp),(by omega)⟩ trivial))))))))))) (PC c4 (PC c6 (PC c8 (PC c10 (PC c13 (PC c15 PN)))))) LN hq
theorem zrv (h16 : ¬r9 < (0 : Int)) {r17 : Int} (c18 : Runs X F.z1a [.immI .i64 t,.immI .i64 r6a] [] (intR r17)) {xs19 : List Int} (c20 : Runs X F.z19 [iD r17] [] (rowR xs19)) (h21 : r9 < (↑xs19.length : Int)) (h22 : r7a.length + 1 <= 1099511627776) {xs23 : List Int} (c24 : Runs X F.z4l [.immI .i64 r6a,iD (xs19.getD (0 + r9.toNat) 0)] [] (rowR xs23)) {xs25 : List Int} (c26 : Runs X F.z9s [.immI .i64 xs23,iD (ixor (xs19.getD (0 + r9.toNat) 0) (1 : Int))] [] (rowR xs25)) (hq : wq F.z9 0 Tryz.f62 0 (z6w t xs25 (r7a ++ [xs19.getD (0 + r9.toNat) 0])) Q) : wq F.z9 0 Tryz.f62 0 (z6w t r6a r7a) Q :=
 RS [true,true,true,false,true,true,true,true,true,true] (.normal (z6w t xs25 (r7a ++ [xs19.getD (0 + r9.toNat) 0]))) [0 + r6a.length <= r6a.length,0 = 0 /\ r6a.length = r6a.length,0 + r6a.length <= r6a.length,0 = 0 /\ r6a.length = r6a.length,0 + xs7.length <= xs7.length,0 = 0 /\ xs7.length = xs7.length,decide (r9 < (0 : Int)) = false,0 + r6a.length <= r6a.length,0 = 0 /\ r6a.length = r6a.length,(0 : Int) <= r9 /\ r9 < (↑xs19.length : Int),0 + r9.toNat < xs19.length,1 <= 1,0 = 0 /\ 1 = 1,0 + r7a.length = r7a.length /\ r7a.length + 1 <= 1099511627776,0 = 0 /\ r7a.length = r7a.length,0 + r6a.length <= r6a.length,0 = 0 /\ r6a.length = r6a.length,0 + xs23.length <= xs23.length,0 = 0 /\ xs23.length = xs23.length] (PO (PA ⟨(by first|omega|simp),(by omega)⟩ (PO (PA ⟨(by first|omega|simp),(by omega)⟩ (PO (PA ⟨(by first|omega|simp),(by omega)⟩ (PA (decide_eq_false h16) (PO (PA ⟨(by first|omega|simp),(by omega)⟩ (PA ⟨(by omega),h21⟩ (PO (PO (PA ⟨(by omega),(by first|omega|simp)⟩ (PA ⟨(by first|omega|simp),h22⟩ (PA ⟨(by first|omega|simp),(by omega)⟩ (PO (PA ⟨(by first|omega|simp),(by omega)⟩ (PO (PA ⟨(by first|omega|simp),(by omega)⟩ trivial))))))))))))))))))) (PC c4 (PC c6 (PC c8 (PC c10 (PC c18 (PC c20 (PC c24 (PC c26 PN)))))))) LN hq
end
theorem zru {t w xs1 : List Int} (c2 : Runs X F.zk [.immI .i64 t,.immI .i64 w] [] (rowR xs1)) {r4az r5az : List Int} (l27 : wl F.z9 0 Tryz.f62 0 (z6w t xs1 []) (z9n r4az r5az)) : Runs X F.z9 [.immI .i64 t,.immI .i64 w] [] ⟨.tup [.rsl 600000 0 r4az.length,.rsl 600001 0 r5az.length],[],[⟨true,.ints .i64 r4az⟩,⟨true,.ints .i64 r5az⟩]⟩ :=
 RG zrt [] [] trivial (PC c2 PN) (LC l27 LN)
theorem zry : X.ft F.z1a = some Tryz.f94 := by kernel_rfl
def z3m (t w : List Int) (t5a t6a : Int) (t11a : Nat) : LSt := ⟨mkE 31 0 [(0,.immI .i64 t),(5,iD t5a),(6,iD t6a),(9,.immI .i64 w),(10,iD (↑w.length : Int)),(11,iD (↑t11a : Int))],[]⟩
def z9o (t5az : Int) : OutL := .exit 0 ⟨mkE 31 0 [(5,iD t5az)],[]⟩
section
variable {Q : Out -> Prop} {t w : List Int} {t5a t6a : Int} {t11a : Nat} (h1 : (↑t11a : Int) < (↑w.length : Int)) {b2 : Bool} (c3 : Runs X F.z21 [iD t6a,iD (w.getD t11a 0)] [] (boolR b2))
include h1 c3
theorem zs0 (h4 : b2 = false) {r5 : Int} (c6 : Runs X F.z5d [iD (w.getD t11a 0)] [] (intR r5)) (h7 : (0 : Int) <= w.getD t11a 0) (h8 : w.getD t11a 0 < (↑t.length : Int)) (h9 : (↑t11a : Int) + (1 : Int) <= (9223372036854775807 : Int)) (hq : wq F.z1a 0 Tryz.f94 0 (z3m t w (ior t5a r5) (ior t6a (t.getD (w.getD t11a 0).toNat (0 : Int))) (t11a + 1)) Q) : wq F.z1a 0 Tryz.f94 0 (z3m t w t5a t6a t11a) Q :=
 RS [true,true] (.normal (z3m t w (ior t5a r5) (ior t6a (t.getD (w.getD t11a 0).toNat (0 : Int))) (t11a + 1))) [decide ((↑t11a : Int) < (↑w.length : Int)) = true,(0 : Int) <= (↑t11a : Int) /\ (↑t11a : Int) < (↑w.length : Int),(!b2) = true,(0 : Int) <= w.getD t11a 0 /\ w.getD t11a 0 < (↑t.length : Int),inR ((↑t11a : Int) + (1 : Int))] (PA (decide_eq_true h1) (PA ⟨(by omega),h1⟩ (PA (not_t h4) (PA ⟨h7,h8⟩ (PA ⟨(by omega),h9⟩ trivial))))) (PC c3 (PC c6 PN)) LN hq
theorem zs1 (h10 : b2 = true) (h11 : (0 : Int) <= w.getD t11a 0) (h12 : w.getD t11a 0 < (↑t.length : Int)) (h13 : (↑t11a : Int) + (1 : Int) <= (9223372036854775807 : Int)) (hq : wq F.z1a 0 Tryz.f94 0 (z3m t w t5a (ior t6a (t.getD (w.getD t11a 0).toNat (0 : Int))) (t11a + 1)) Q) : wq F.z1a 0 Tryz.f94 0 (z3m t w t5a t6a t11a) Q :=
 RS [true,false] (.normal (z3m t w t5a (ior t6a (t.getD (w.getD t11a 0).toNat (0 : Int))) (t11a + 1))) [decide ((↑t11a : Int) < (↑w.length : Int)) = true,(0 : Int) <= (↑t11a : Int) /\ (↑t11a : Int) < (↑w.length : Int),(!b2) = false,(0 : Int) <= w.getD t11a 0 /\ w.getD t11a 0 < (↑t.length : Int),inR ((↑t11a : Int) + (1 : Int))] (PA (decide_eq_true h1) (PA ⟨(by omega),h1⟩ (PA (not_f h10) (PA ⟨h11,h12⟩ (PA ⟨(by omega),h13⟩ trivial))))) (PC c3 PN) LN hq
end
theorem zs2 {Q : Out -> Prop} {t w : List Int} {t5a t6a : Int} {t11a : Nat} (h14 : ¬(↑t11a : Int) < (↑w.length : Int)) (hq : Q (z9o t5a).out) : wq F.z1a 0 Tryz.f94 0 (z3m t w t5a t6a t11a) Q :=
 RS [false] (z9o t5a) [decide ((↑t11a : Int) < (↑w.length : Int)) = false] (PA (decide_eq_false h14) trivial) PN LN hq
theorem zrz {t w : List Int} {t5az : Int} (l15 : wl F.z1a 0 Tryz.f94 0 (z3m t w (0 : Int) (0 : Int) 0) (z9o t5az)) : Runs X F.z1a [.immI .i64 t,.immI .i64 w] [] (intR t5az) :=
 RG zry [] [] trivial PN (LC l15 LN)
theorem zs3 : X.ft F.zk = some Tryz.f31 := by kernel_rfl
def z2m (t w : List Int) (t12a : Nat) (r5a : List Int) : LSt := ⟨mkE 59 0 [(0,.immI .i64 t),(5,.rsl 5 0 r5a.length),(10,.immI .i64 w),(11,iD (↑w.length : Int)),(12,iD (↑t12a : Int))],[(5,⟨true,.ints .i64 r5a⟩)]⟩
def z9p (t r5az : List Int) : OutL := .exit 0 ⟨mkE 59 0 [(0,.immI .i64 t),(5,.rsl 5 0 r5az.length)],[(5,⟨true,.ints .i64 r5az⟩)]⟩
def z34 (t w : List Int) (t12a : Nat) (r5a : List Int) (t8b : Int) : LSt := ⟨mkE 59 0 [(0,.immI .i64 t),(5,.rsl 5 0 r5a.length),(7,iD (w.getD t12a 0)),(8,iD t8b),(10,.immI .i64 w),(11,iD (↑w.length : Int)),(12,iD (↑t12a : Int))],[(5,⟨true,.ints .i64 r5a⟩)]⟩
def z3n (t w : List Int) (t12a : Nat) (r5a : List Int) (t8bz : Int) : OutL := .exit 2 ⟨mkE 59 0 [(0,.immI .i64 t),(5,.rsl 5 0 r5a.length),(7,iD (w.getD t12a 0)),(8,iD t8bz),(10,.immI .i64 w),(11,iD (↑w.length : Int)),(12,iD (↑t12a : Int))],[(5,⟨true,.ints .i64 r5a⟩)]⟩
section
variable {Q : Out -> Prop} {t w : List Int} {t12a : Nat} {r5a : List Int} (h1 : (↑t12a : Int) < (↑w.length : Int)) (h2 : (↑r5a.length : Int) - (1 : Int) <= (9223372036854775807 : Int))
include h1 h2
section
variable {t8b : Int} (h3 : t8b >= (0 : Int)) (h4 : (0 : Int) <= w.getD t12a 0) (h5 : w.getD t12a 0 < (↑t.length : Int)) (h6 : t8b < (↑r5a.length : Int)) {b7 : Bool} (c8 : Runs X F.z21 [iD (t.getD (w.getD t12a 0).toNat (0 : Int)),iD (r5a.getD (0 + t8b.toNat) 0)] [] (boolR b7))
include h3 h4 h5 h6 c8
theorem zsb (h9 : b7 = false) (hq : wq F.zk 2 Tryz.f31 1 (z34 t w t12a r5a (t8b - (1 : Int))) Q) : wq F.zk 2 Tryz.f31 1 (z34 t w t12a r5a t8b) Q :=
 RS [true,true,true,true,true,true,true,true,true,true,true,true] (.normal (z34 t w t12a r5a (t8b - (1 : Int)))) [decide (t8b >= (0 : Int)) = true,decide (t8b >= (0 : Int)) = true,decide (t8b >= (0 : Int)) = true,(0 : Int) <= w.getD t12a 0 /\ w.getD t12a 0 < (↑t.length : Int),decide (t8b >= (0 : Int)) = true,decide (t8b >= (0 : Int)) = true,decide (t8b >= (0 : Int)) = true,decide (t8b >= (0 : Int)) = true,(0 : Int) <= t8b /\ t8b < (↑r5a.length : Int),decide (t8b >= (0 : Int)) = true,0 + t8b.toNat < r5a.length,decide (t8b >= (0 : Int)) = true,decide (t8b >= (0 : Int)) = true,decide (t8b >= (0 : Int)) = true,(!b7) = true,inR (t8b - (1 : Int))] (PA (decide_eq_true h3) (PA (decide_eq_true h3) (PA (decide_eq_true h3) (PA ⟨h4,h5⟩ (PA (decide_eq_true h3) (PA (decide_eq_true h3) (PA (decide_eq_true h3) (PA (decide_eq_true h3) (PA ⟨h3,h6⟩ (PA (decide_eq_true h3) (PO (PA (decide_eq_true h3) (PA (decide_eq_true h3) (PA (decide_eq_true h3) (PA (not_t h9) (PA ⟨(by omega),(by omega)⟩ trivial)))))))))))))))) (PC c8 PN) LN hq
theorem zsc (h10 : b7 = true) (hq : Q (z3n t w t12a r5a t8b).out) : wq F.zk 2 Tryz.f31 1 (z34 t w t12a r5a t8b) Q :=
 RS [true,true,true,true,true,true,true,true,true,true,true,false] (z3n t w t12a r5a t8b) [decide (t8b >= (0 : Int)) = true,decide (t8b >= (0 : Int)) = true,decide (t8b >= (0 : Int)) = true,(0 : Int) <= w.getD t12a 0 /\ w.getD t12a 0 < (↑t.length : Int),decide (t8b >= (0 : Int)) = true,decide (t8b >= (0 : Int)) = true,decide (t8b >= (0 : Int)) = true,decide (t8b >= (0 : Int)) = true,(0 : Int) <= t8b /\ t8b < (↑r5a.length : Int),decide (t8b >= (0 : Int)) = true,0 + t8b.toNat < r5a.length,decide (t8b >= (0 : Int)) = true,decide (t8b >= (0 : Int)) = true,decide (t8b >= (0 : Int)) = true,(!b7) = false] (PA (decide_eq_true h3) (PA (decide_eq_true h3) (PA (decide_eq_true h3) (PA ⟨h4,h5⟩ (PA (decide_eq_true h3) (PA (decide_eq_true h3) (PA (decide_eq_true h3) (PA (decide_eq_true h3) (PA ⟨h3,h6⟩ (PA (decide_eq_true h3) (PO (PA (decide_eq_true h3) (PA (decide_eq_true h3) (PA (decide_eq_true h3) (PA (not_f h10) trivial))))))))))))))) (PC c8 PN) LN hq
end
theorem zsd {t8b : Int} (h11 : ¬t8b >= (0 : Int)) (hq : Q (z3n t w t12a r5a t8b).out) : wq F.zk 2 Tryz.f31 1 (z34 t w t12a r5a t8b) Q :=
 RS [false,false,false,false,false,false,false,false,false,false,false,false] (z3n t w t12a r5a t8b) [decide (t8b >= (0 : Int)) = false,decide (t8b >= (0 : Int)) = false,decide (t8b >= (0 : Int)) = false,decide (t8b >= (0 : Int)) = false,decide (t8b >= (0 : Int)) = false,decide (t8b >= (0 : Int)) = false,decide (t8b >= (0 : Int)) = false,decide (t8b >= (0 : Int)) = false,decide (t8b >= (0 : Int)) = false,decide (t8b >= (0 : Int)) = false,decide (t8b >= (0 : Int)) = false,false = false] (PA (decide_eq_false h11) (PA (decide_eq_false h11) (PA (decide_eq_false h11) (PA (decide_eq_false h11) (PA (decide_eq_false h11) (PA (decide_eq_false h11) (PA (decide_eq_false h11) (PA (decide_eq_false h11) (PA (decide_eq_false h11) (PA (decide_eq_false h11) (PA (decide_eq_false h11) (PO trivial)))))))))))) PN LN hq
section
variable {t8bz : Int} (l12 : wl F.zk 2 Tryz.f31 1 (z34 t w t12a r5a ((↑r5a.length : Int) - (1 : Int))) (z3n t w t12a r5a t8bz))
include l12
section
variable (h13 : t8bz >= (0 : Int)) (h14 : t8bz < (↑r5a.length : Int))
include h13 h14
theorem zs6 (h15 : r5a.getD (0 + t8bz.toNat) 0 = ixor (w.getD t12a 0) (1 : Int)) (h16 : t8bz + (1 : Int) <= (9223372036854775807 : Int)) {xs17 : List Int} (c18 : Runs X F.zau [.rsl 500000 0 r5a.length,iD t8bz,iD (t8bz + (1 : Int))] [⟨true,.ints .i64 r5a⟩] ⟨.rsl 600000 0 xs17.length,[none],[⟨true,.ints .i64 xs17⟩]⟩) (h19 : (↑t12a : Int) + (1 : Int) <= (9223372036854775807 : Int)) (hq : wq F.zk 0 Tryz.f31 0 (z2m t w (t12a + 1) xs17) Q) : wq F.zk 0 Tryz.f31 0 (z2m t w t12a r5a) Q :=
 RS [true,true,true,true,true,true,true,true,true,true] (.normal (z2m t w (t12a + 1) xs17)) [decide ((↑t12a : Int) < (↑w.length : Int)) = true,(0 : Int) <= (↑t12a : Int) /\ (↑t12a : Int) < (↑w.length : Int),inR ((↑r5a.length : Int) - (1 : Int)),decide (t8bz >= (0 : Int)) = true,decide (t8bz >= (0 : Int)) = true,decide (t8bz >= (0 : Int)) = true,(0 : Int) <= t8bz /\ t8bz < (↑r5a.length : Int),decide (t8bz >= (0 : Int)) = true,0 + t8bz.toNat < r5a.length,decide (t8bz >= (0 : Int)) = true,decide (t8bz >= (0 : Int)) = true,decide (t8bz >= (0 : Int)) = true,decide (t8bz >= (0 : Int)) = true,(r5a.getD (0 + t8bz.toNat) 0 == ixor (w.getD t12a 0) (1 : Int)) = true,inR (t8bz + (1 : Int)),inR ((↑t12a : Int) + (1 : Int))] (PA (decide_eq_true h1) (PA ⟨(by omega),h1⟩ (PA ⟨(by omega),h2⟩ (PA (decide_eq_true h13) (PA (decide_eq_true h13) (PA (decide_eq_true h13) (PA ⟨h13,h14⟩ (PA (decide_eq_true h13) (PO (PA (decide_eq_true h13) (PA (decide_eq_true h13) (PA (decide_eq_true h13) (PA (decide_eq_true h13) (PA (beq_iff_eq.2 h15) (PA ⟨(by omega),h16⟩ (PA ⟨(by omega),h19⟩ trivial)))))))))))))))) (PC c18 PN) (LC l12 LN) hq
theorem zs7 (h20 : ¬r5a.getD (0 + t8bz.toNat) 0 = ixor (w.getD t12a 0) (1 : Int)) (h21 : r5a.length + 1 <= 1099511627776) (h22 : (↑t12a : Int) + (1 : Int) <= (9223372036854775807 : Int)) (hq : wq F.zk 0 Tryz.f31 0 (z2m t w (t12a + 1) (r5a ++ [w.getD t12a 0])) Q) : wq F.zk 0 Tryz.f31 0 (z2m t w t12a r5a) Q :=
 RS [true,true,true,true,true,true,true,true,true,false,true,true,true] (.normal (z2m t w (t12a + 1) (r5a ++ [w.getD t12a 0]))) [decide ((↑t12a : Int) < (↑w.length : Int)) = true,(0 : Int) <= (↑t12a : Int) /\ (↑t12a : Int) < (↑w.length : Int),inR ((↑r5a.length : Int) - (1 : Int)),decide (t8bz >= (0 : Int)) = true,decide (t8bz >= (0 : Int)) = true,decide (t8bz >= (0 : Int)) = true,(0 : Int) <= t8bz /\ t8bz < (↑r5a.length : Int),decide (t8bz >= (0 : Int)) = true,0 + t8bz.toNat < r5a.length,decide (t8bz >= (0 : Int)) = true,decide (t8bz >= (0 : Int)) = true,decide (t8bz >= (0 : Int)) = true,decide (t8bz >= (0 : Int)) = true,(r5a.getD (0 + t8bz.toNat) 0 == ixor (w.getD t12a 0) (1 : Int)) = false,1 <= 1,0 = 0 /\ 1 = 1,0 + r5a.length = r5a.length /\ r5a.length + 1 <= 1099511627776,0 = 0 /\ r5a.length = r5a.length,inR ((↑t12a : Int) + (1 : Int))] (PA (decide_eq_true h1) (PA ⟨(by omega),h1⟩ (PA ⟨(by omega),h2⟩ (PA (decide_eq_true h13) (PA (decide_eq_true h13) (PA (decide_eq_true h13) (PA ⟨h13,h14⟩ (PA (decide_eq_true h13) (PO (PA (decide_eq_true h13) (PA (decide_eq_true h13) (PA (decide_eq_true h13) (PA (decide_eq_true h13) (PA (beq_false_of_ne h20) (PO (PA ⟨(by omega),(by first|omega|simp)⟩ (PA ⟨(by first|omega|simp),h21⟩ (PA ⟨(by first|omega|simp),(by omega)⟩ (PA ⟨(by omega),h22⟩ trivial))))))))))))))))))) PN (LC l12 LN) hq
end
theorem zs9 (h23 : ¬t8bz >= (0 : Int)) (h24 : r5a.length + 1 <= 1099511627776) (h25 : (↑t12a : Int) + (1 : Int) <= (9223372036854775807 : Int)) (hq : wq F.zk 0 Tryz.f31 0 (z2m t w (t12a + 1) (r5a ++ [w.getD t12a 0])) Q) : wq F.zk 0 Tryz.f31 0 (z2m t w t12a r5a) Q :=
 RS [true,false,false,false,false,false,false,false,false,false,true,true,true] (.normal (z2m t w (t12a + 1) (r5a ++ [w.getD t12a 0]))) [decide ((↑t12a : Int) < (↑w.length : Int)) = true,(0 : Int) <= (↑t12a : Int) /\ (↑t12a : Int) < (↑w.length : Int),inR ((↑r5a.length : Int) - (1 : Int)),decide (t8bz >= (0 : Int)) = false,decide (t8bz >= (0 : Int)) = false,decide (t8bz >= (0 : Int)) = false,decide (t8bz >= (0 : Int)) = false,decide (t8bz >= (0 : Int)) = false,decide (t8bz >= (0 : Int)) = false,decide (t8bz >= (0 : Int)) = false,decide (t8bz >= (0 : Int)) = false,false = false,1 <= 1,0 = 0 /\ 1 = 1,0 + r5a.length = r5a.length /\ r5a.length + 1 <= 1099511627776,0 = 0 /\ r5a.length = r5a.length,inR ((↑t12a : Int) + (1 : Int))] (PA (decide_eq_true h1) (PA ⟨(by omega),h1⟩ (PA ⟨(by omega),h2⟩ (PA (decide_eq_false h23) (PA (decide_eq_false h23) (PA (decide_eq_false h23) (PA (decide_eq_false h23) (PA (decide_eq_false h23) (PA (decide_eq_false h23) (PA (decide_eq_false h23) (PA (decide_eq_false h23) (PO (PO (PA ⟨(by omega),(by first|omega|simp)⟩ (PA ⟨(by first|omega|simp),h24⟩ (PA ⟨(by first|omega|simp),(by omega)⟩ (PA ⟨(by omega),h25⟩ trivial))))))))))))))))) PN (LC l12 LN) hq
end
end
theorem zsa {Q : Out -> Prop} {t w : List Int} {t12a : Nat} {r5a : List Int} (h26 : ¬(↑t12a : Int) < (↑w.length : Int)) (hq : Q (z9p t r5a).out) : wq F.zk 0 Tryz.f31 0 (z2m t w t12a r5a) Q :=
 RS [false] (z9p t r5a) [decide ((↑t12a : Int) < (↑w.length : Int)) = false] (PA (decide_eq_false h26) trivial) PN LN hq
theorem zs5 {t w r5az : List Int} (l27 : wl F.zk 0 Tryz.f31 0 (z2m t w 0 []) (z9p t r5az)) {xs28 : List Int} (c29 : Runs X F.z1n [.immI .i64 t,.immI .i64 r5az] [] (rowR xs28)) : Runs X F.zk [.immI .i64 t,.immI .i64 w] [] (rowR xs28) :=
 RG zs3 [true] [0 + r5az.length <= r5az.length,0 = 0 /\ r5az.length = r5az.length] (PO (PA ⟨(by first|omega|simp),(by omega)⟩ trivial)) (PC c29 PN) (LC l27 LN)
theorem zse : X.ft F.z9q = some Tryz.f101 := by kernel_rfl
theorem zi7 {t w xs1 : List Int} (c2 : Runs X F.z5e [.immI .i64 w] [] (rowR xs1)) {r3 : Int} (c4 : Runs X F.z1a [.immI .i64 t,.immI .i64 xs1] [] (intR r3)) : Runs X F.z9q [.immI .i64 t,.immI .i64 w] [] (intR r3) :=
 RG zse [true] [0 + xs1.length <= xs1.length,0 = 0 /\ xs1.length = xs1.length] (PO (PA ⟨(by first|omega|simp),(by omega)⟩ trivial)) (PC c2 (PC c4 PN)) LN
theorem zsf : X.ft F.z1n = some Tryz.f53 := by kernel_rfl
def z9r (t w : List Int) : LSt := ⟨mkE 27 0 [(0,.immI .i64 t),(5,.rsl 5 0 0),(6,.immI .i64 w)],[(5,⟨true,.ints .i64 []⟩)]⟩
def z5h (t r5a r6a : List Int) : LSt := ⟨mkE 27 0 [(0,.immI .i64 t),(5,.rsl 5 0 r5a.length),(6,.rsl 6 0 r6a.length)],[(5,⟨true,.ints .i64 r5a⟩),(6,⟨true,.ints .i64 r6a⟩)]⟩
def z5g (r5az : List Int) : OutL := .exit 0 ⟨mkE 27 0 [(5,.rsl 5 0 r5az.length)],[(5,⟨true,.ints .i64 r5az⟩)]⟩
section
variable {Q : Out -> Prop} {t : List Int}
section
variable {w : List Int} (h1 : (↑w.length : Int) <= (↑1099511627776 : Int))
include h1
theorem zsh (h2 : (↑w.length : Int) > (0 : Int)) {r3 : Int} (c4 : Runs X F.z1a [.immI .i64 t,.immI .i64 w] [] (intR r3)) {r5 : Int} (c6 : Runs X F.z6s [iD r3] [] (intR r5)) {xs7 : List Int} (c8 : Runs X F.z4l [.immI .i64 w,iD r5] [] (rowR xs7)) (hq : wq F.z1n 0 Tryz.f53 0 (z5h t [r5] xs7) Q) : wq F.z1n 0 Tryz.f53 0 (z9r t w) Q :=
 RS [true,true,true,true] (.normal (z5h t [r5] xs7)) [decide ((↑w.length : Int) > (0 : Int)) = true,1 <= 1,0 = 0 /\ 1 = 1,0 = 0 /\ 1 <= 1099511627776,0 = 0 /\ 0 = 0] (PA (decide_eq_true h2) (PO (PA ⟨(by omega),(by first|omega|simp)⟩ (PA ⟨(by omega),(by first|omega|simp)⟩ (PA ⟨(by first|omega|simp),(by omega)⟩ trivial))))) (PC c4 (PC c6 (PC c8 PN))) LN hq
theorem zsi (h9 : ¬(↑w.length : Int) > (0 : Int)) (hq : Q (z5g []).out) : wq F.z1n 0 Tryz.f53 0 (z9r t w) Q :=
 RS [false] (z5g []) [decide ((↑w.length : Int) > (0 : Int)) = false] (PA (decide_eq_false h9) trivial) PN LN hq
end
theorem zsj {r5a r6a : List Int} (h10 : (↑r6a.length : Int) > (0 : Int)) {r11 : Int} (c12 : Runs X F.z1a [.immI .i64 t,.immI .i64 r6a] [] (intR r11)) {r13 : Int} (c14 : Runs X F.z6s [iD r11] [] (intR r13)) (h15 : r5a.length + 1 <= 1099511627776) {xs16 : List Int} (c17 : Runs X F.z4l [.immI .i64 r6a,iD r13] [] (rowR xs16)) (hq : wq F.z1n 0 Tryz.f53 0 (z5h t (r5a ++ [r13]) xs16) Q) : wq F.z1n 0 Tryz.f53 0 (z5h t r5a r6a) Q :=
 RS [true,true,true,true,true,true] (.normal (z5h t (r5a ++ [r13]) xs16)) [decide ((↑r6a.length : Int) > (0 : Int)) = true,0 + r6a.length <= r6a.length,0 = 0 /\ r6a.length = r6a.length,1 <= 1,0 = 0 /\ 1 = 1,0 + r5a.length = r5a.length /\ r5a.length + 1 <= 1099511627776,0 = 0 /\ r5a.length = r5a.length,0 + r6a.length <= r6a.length,0 = 0 /\ r6a.length = r6a.length] (PA (decide_eq_true h10) (PO (PA ⟨(by first|omega|simp),(by omega)⟩ (PO (PA ⟨(by omega),(by first|omega|simp)⟩ (PA ⟨(by first|omega|simp),h15⟩ (PA ⟨(by first|omega|simp),(by omega)⟩ (PO (PA ⟨(by first|omega|simp),(by omega)⟩ trivial))))))))) (PC c12 (PC c14 (PC c17 PN))) LN hq
theorem zsk {r5a r6a : List Int} (h18 : ¬(↑r6a.length : Int) > (0 : Int)) (hq : Q (z5g r5a).out) : wq F.z1n 0 Tryz.f53 0 (z5h t r5a r6a) Q :=
 RS [false] (z5g r5a) [decide ((↑r6a.length : Int) > (0 : Int)) = false] (PA (decide_eq_false h18) trivial) PN LN hq
end
theorem zsg {t w : List Int} (h1 : (↑w.length : Int) <= (↑1099511627776 : Int)) {r5az : List Int} (l19 : wl F.z1n 0 Tryz.f53 0 (z9r t w) (z5g r5az)) : Runs X F.z1n [.immI .i64 t,.immI .i64 w] [] (rowR r5az) :=
 RG zsf [] [(0 : Int) <= (0 : Int) /\ (0 : Int) <= (↑w.length : Int) /\ (↑w.length : Int) <= (↑1099511627776 : Int)] (PA ⟨(by omega),⟨(by omega),h1⟩⟩ trivial) PN (LC l19 LN)
theorem zsn : X.ft F.z4l = some Tryz.f95 := by kernel_rfl
theorem zso {w : List Int} {a r1 : Int} (c2 : Runs X F.z2e [.immI .i64 w,iD a] [] (intR r1)) (h3 : (0 : Int) <= r1) (h4 : r1.toNat <= w.length) (h5 : r1 + (1 : Int) <= (9223372036854775807 : Int)) (h6 : (r1 + (1 : Int)).toNat <= w.length) {xs7 : List Int} (c8 : Runs X F.zm [.imm2 .i64 [List.take (r1.toNat - 0) (List.drop 0 w),List.take (w.length - (r1 + (1 : Int)).toNat) (List.drop (r1 + (1 : Int)).toNat w)]] [] (rowR xs7)) : Runs X F.z4l [.immI .i64 w,iD a] [] (rowR xs7) :=
 RG zsn [false,false,true] [(0 : Int) <= r1,0 <= r1.toNat /\ r1.toNat <= w.length,0 + (r1.toNat - 0) <= w.length,inR (r1 + (1 : Int)),(0 : Int) <= r1 + (1 : Int),(r1 + (1 : Int)).toNat <= w.length /\ w.length <= w.length,(r1 + (1 : Int)).toNat + (w.length - (r1 + (1 : Int)).toNat) <= w.length,2 <= 2,0 = 0 /\ 2 = 2] (PA h3 (PA ⟨(by omega),h4⟩ (PO (PA ⟨(by omega),h5⟩ (PO (PA ⟨h6,(by omega)⟩ (PO (PO (PA ⟨(by omega),(by first|omega|simp)⟩ trivial))))))))) (PC c2 (PC c8 PN)) LN
theorem zsp : X.ft F.z9s = some Tryz.f103 := by kernel_rfl
theorem zsq {w : List Int} {a : Int} {xs1 : List Int} (c2 : Runs X F.z5e [.immI .i64 w] [] (rowR xs1)) {xs3 : List Int} (c4 : Runs X F.z4l [.immI .i64 xs1,iD a] [] (rowR xs3)) {xs5 : List Int} (c6 : Runs X F.z5e [.immI .i64 xs3] [] (rowR xs5)) : Runs X F.z9s [.immI .i64 w,iD a] [] (rowR xs5) :=
 RG zsp [true,true] [0 + xs1.length <= xs1.length,0 = 0 /\ xs1.length = xs1.length,0 + xs3.length <= xs3.length,0 = 0 /\ xs3.length = xs3.length] (PO (PA ⟨(by first|omega|simp),(by omega)⟩ (PO (PA ⟨(by first|omega|simp),(by omega)⟩ trivial)))) (PC c2 (PC c4 (PC c6 PN))) LN
end Go.PR.S
