/- Path lemmas (written by Vc.lean). -/
import Derived.Test.YtnhklcbddcoadaaGreatDoorFwMk
set_option linter.unusedVariables false
set_option linter.unusedSimpArgs false
set_option linter.unusedSectionVars false
set_option maxRecDepth 20000
open Go Go.PR Go.Proofs Go.PR.S
namespace Go.PR.S
theorem zye : X.ft F.z2f = some Tryz.f111 := by kernel_rfl
theorem zyf {m i : Int} (h1 : (0 : Int) <= IntKind.u64.wrap i) : Runs X F.z2f [iD m,iD i] [] ⟨.bool (iand (ishr m (IntKind.u64.wrap i)) (1 : Int) == (1 : Int)),[],[]⟩ :=
 RG zye [] [(0 : Int) <= IntKind.u64.wrap i] (PA h1 trivial) PN LN
theorem zyk : X.ft F.z8r = some Tryz.f131 := by kernel_rfl
theorem zyl {i r1 : Int} (c2 : Runs X F.z2w [iD i] [] (intR r1)) (h3 : (-9223372036854775808 : Int) <= r1 - (1 : Int)) (h4 : r1 - (1 : Int) <= (9223372036854775807 : Int)) : Runs X F.z8r [iD i] [] ⟨iD (r1 - (1 : Int)),[],[]⟩ :=
 RG zyk [] [inR (r1 - (1 : Int))] (PA ⟨h3,h4⟩ trivial) (PC c2 PN) LN
theorem zl4 : X.ft F.z2g = some Tryz.f125 := by kernel_rfl
theorem zym {n a b : Int} (h1 : n >= a) : Runs X F.z2g [iD n,iD a,iD b] [] ⟨.bool (decide (n <= b)),[],[]⟩ :=
 RG zl4 [true,true,true,true] [decide (n >= a) = true,decide (n >= a) = true,decide (n >= a) = true,decide (n >= a) = true] (PA (decide_eq_true h1) (PA (decide_eq_true h1) (PA (decide_eq_true h1) (PA (decide_eq_true h1) trivial)))) PN LN
theorem zyn {n a b : Int} (h2 : ¬n >= a) : Runs X F.z2g [iD n,iD a,iD b] [] (boolR false) :=
 RG zl4 [false,false,false,false] [decide (n >= a) = false,decide (n >= a) = false,decide (n >= a) = false,decide (n >= a) = false] (PA (decide_eq_false h2) (PA (decide_eq_false h2) (PA (decide_eq_false h2) (PA (decide_eq_false h2) trivial)))) PN LN
theorem zl5 : X.ft F.z23 = some Tryz.f126 := by kernel_rfl
def z50 (n : Int) (d : List Int) (t5a : Nat) : LSt := ⟨mkE 20 0 [(0,iD n),(1,.immI .i64 d),(5,iD (↑t5a : Int))],[]⟩
def zb4 : OutL := .ret ⟨mkE 20 0 [(4,.bool false)],[]⟩
def zb5 : OutL := .exit 0 ⟨mkE 20 0 [],[]⟩
section
variable {Q : Out -> Prop} {n : Int} {d : List Int} {t5a : Nat} (h1 : (↑t5a : Int) < (↑d.length : Int)) {r2 : Int} (c3 : Runs X F.z8r [iD n] [] (intR r2)) {b4 : Bool} (c5 : Runs X F.z2g [iD (d.getD t5a 0),iD 0,iD r2] [] (boolR b4))
include h1 c3 c5
theorem zyq (h6 : b4 = false) (hq : Q (zb4).out) : wq F.z23 0 Tryz.f126 0 (z50 n d t5a) Q :=
 RS [true,true] (zb4) [decide ((↑t5a : Int) < (↑d.length : Int)) = true,(0 : Int) <= (↑t5a : Int) /\ (↑t5a : Int) < (↑d.length : Int),(!b4) = true] (PA (decide_eq_true h1) (PA ⟨(by omega),h1⟩ (PA (not_t h6) trivial))) (PC c3 (PC c5 PN)) LN hq
theorem zyr (h7 : b4 = true) (h8 : (↑t5a : Int) + (1 : Int) <= (9223372036854775807 : Int)) (hq : wq F.z23 0 Tryz.f126 0 (z50 n d (t5a + 1)) Q) : wq F.z23 0 Tryz.f126 0 (z50 n d t5a) Q :=
 RS [true,false] (.normal (z50 n d (t5a + 1))) [decide ((↑t5a : Int) < (↑d.length : Int)) = true,(0 : Int) <= (↑t5a : Int) /\ (↑t5a : Int) < (↑d.length : Int),(!b4) = false,inR ((↑t5a : Int) + (1 : Int))] (PA (decide_eq_true h1) (PA ⟨(by omega),h1⟩ (PA (not_f h7) (PA ⟨(by omega),h8⟩ trivial)))) (PC c3 (PC c5 PN)) LN hq
end
theorem zys {Q : Out -> Prop} {n : Int} {d : List Int} {t5a : Nat} (h9 : ¬(↑t5a : Int) < (↑d.length : Int)) (hq : Q (zb5).out) : wq F.z23 0 Tryz.f126 0 (z50 n d t5a) Q :=
 RS [false] (zb5) [decide ((↑t5a : Int) < (↑d.length : Int)) = false] (PA (decide_eq_false h9) trivial) PN LN hq
theorem zyo {n : Int} {d : List Int} (l10 : wl F.z23 0 Tryz.f126 0 (z50 n d 0) zb4) : Runs X F.z23 [iD n,.immI .i64 d] [] (boolR false) :=
 RG zl5 [] [] trivial PN (LC l10 LN)
theorem zyp {n : Int} {d : List Int} (l11 : wl F.z23 0 Tryz.f126 0 (z50 n d 0) zb5) : Runs X F.z23 [iD n,.immI .i64 d] [] (boolR true) :=
 RG zl5 [] [] trivial PN (LC l11 LN)
theorem zyw : X.ft F.z2w = some Tryz.f76 := by kernel_rfl
theorem zyx {i : Int} (h1 : (0 : Int) <= IntKind.u64.wrap i) (h2 : (-9223372036854775808 : Int) <= ishl (1 : Int) (IntKind.u64.wrap i)) (h3 : ishl (1 : Int) (IntKind.u64.wrap i) <= (9223372036854775807 : Int)) : Runs X F.z2w [iD i] [] ⟨iD (ishl (1 : Int) (IntKind.u64.wrap i)),[],[]⟩ :=
 RG zyw [] [(0 : Int) <= IntKind.u64.wrap i,inR (ishl (1 : Int) (IntKind.u64.wrap i))] (PA h1 (PA ⟨h2,h3⟩ trivial)) PN LN
theorem zyy : X.ft F.z18 = some Tryz.f40 := by kernel_rfl
theorem zyz {w : List Int} (h1 : 0 + w.length <= 1099511627776) : Runs X F.z18 [.immI .i64 w] [] (rowR w) :=
 RG zyy [true,true] [0 = 0 /\ 0 + w.length <= 1099511627776,0 = 0 /\ 0 = 0] (PA ⟨(by omega),h1⟩ (PA ⟨(by omega),(by first|omega|simp)⟩ trivial)) PN LN
theorem zz8 : X.ft F.z3a = some Tryz.f75 := by kernel_rfl
theorem zl6 {n : Int} {d : List Int} {a b : Int} (h1 : (0 : Int) <= a) (h2 : a < (↑d.length : Int)) {b3 : Bool} (c4 : Runs X F.z2f [iD (d.getD a.toNat 0),iD b] [] (boolR b3)) : Runs X F.z3a [alD n d,iD a,iD b] [] (boolR b3) :=
 RG zz8 [] [(0 : Int) <= a /\ a < (↑d.length : Int)] (PA ⟨h1,h2⟩ trivial) (PC c4 PN) LN
theorem z8s : X.ft F.za = some Tryz.f96 := by kernel_rfl
section
variable {n : Int} {d : List Int} {b1 : Bool} (c2 : Runs X F.z2g [iD n,iD 0,iD 8] [] (boolR b1))
include c2
theorem zzn (h3 : b1 = false) : Runs X F.za [alD n d] [] (boolR false) :=
 RG z8s [true,true,true,true,true,true,true,true,true,true,true,true,true,true,true] [(!b1) = true,(!b1) = true,(!b1) = true,(!b1) = true,(!b1) = true,(!b1) = true,(!b1) = true,true = true,true = true,true = true,true = true,true = true,true = true,true = true,true = true] (PA (not_t h3) (PA (not_t h3) (PA (not_t h3) (PA (not_t h3) (PA (not_t h3) (PA (not_t h3) (PA (not_t h3) (PO (PO (PO (PO (PO (PO (PO (PO trivial))))))))))))))) (PC c2 PN) LN
theorem zzo (h4 : b1 = true) (h5 : ¬(↑d.length : Int) = n) : Runs X F.za [alD n d] [] (boolR false) :=
 RG z8s [false,false,false,false,false,false,false,true,true,true,true,true,true,true,true] [(!b1) = false,(!b1) = false,(!b1) = false,(!b1) = false,(!b1) = false,(!b1) = false,(!b1) = false,((↑d.length : Int) != n) = true,((↑d.length : Int) != n) = true,((↑d.length : Int) != n) = true,((↑d.length : Int) != n) = true,((↑d.length : Int) != n) = true,((↑d.length : Int) != n) = true,((↑d.length : Int) != n) = true,true = true] (PA (not_f h4) (PA (not_f h4) (PA (not_f h4) (PA (not_f h4) (PA (not_f h4) (PA (not_f h4) (PA (not_f h4) (PA (bne_iff_ne.2 h5) (PA (bne_iff_ne.2 h5) (PA (bne_iff_ne.2 h5) (PA (bne_iff_ne.2 h5) (PA (bne_iff_ne.2 h5) (PA (bne_iff_ne.2 h5) (PA (bne_iff_ne.2 h5) (PO trivial))))))))))))))) (PC c2 PN) LN
theorem zzp (h4 : b1 = true) (h6 : (↑d.length : Int) = n) {b7 : Bool} (c8 : Runs X F.z23 [iD n,.immI .i64 d] [] (boolR b7)) (h9 : b7 = false) : Runs X F.za [alD n d] [] (boolR false) :=
 RG z8s [false,false,false,false,false,false,false,false,false,false,false,false,false,false,true] [(!b1) = false,(!b1) = false,(!b1) = false,(!b1) = false,(!b1) = false,(!b1) = false,(!b1) = false,((↑d.length : Int) != n) = false,((↑d.length : Int) != n) = false,((↑d.length : Int) != n) = false,((↑d.length : Int) != n) = false,((↑d.length : Int) != n) = false,((↑d.length : Int) != n) = false,((↑d.length : Int) != n) = false,(!b7) = true] (PA (not_f h4) (PA (not_f h4) (PA (not_f h4) (PA (not_f h4) (PA (not_f h4) (PA (not_f h4) (PA (not_f h4) (PA (bne_eq_false_iff_eq.2 h6) (PA (bne_eq_false_iff_eq.2 h6) (PA (bne_eq_false_iff_eq.2 h6) (PA (bne_eq_false_iff_eq.2 h6) (PA (bne_eq_false_iff_eq.2 h6) (PA (bne_eq_false_iff_eq.2 h6) (PA (bne_eq_false_iff_eq.2 h6) (PA (not_t h9) trivial))))))))))))))) (PC c2 (PC c8 PN)) LN
end
def z41 (n : Int) (d : List Int) (t3a : Nat) : LSt := ⟨mkE 60 0 [(1,.ptr 1001 0),(3,iD (↑t3a : Int))],[(1001,⟨true,.var [iD n,.immI .i64 d]⟩)]⟩
def z7d : OutL := .ret ⟨mkE 60 0 [(2,.bool false)],[]⟩
def zbb : OutL := .exit 0 ⟨mkE 60 0 [],[]⟩
theorem zzs {Q : Out -> Prop} {n : Int} {d : List Int} (h6 : (↑d.length : Int) = n) {t3a : Nat} (h11 : (↑t3a : Int) < n) {b12 : Bool} (c13 : Runs X F.z2f [iD (d.getD t3a 0),iD (↑t3a : Int)] [] (boolR b12)) (h14 : b12 = false) (hq : Q (z7d).out) : wq F.za 0 Tryz.f96 0 (z41 n d t3a) Q :=
 RS [true,true] (z7d) [decide ((↑t3a : Int) < n) = true,(0 : Int) <= (↑t3a : Int) /\ (↑t3a : Int) < (↑d.length : Int),(!b12) = true] (PA (decide_eq_true h11) (PA ⟨(by omega),(by omega)⟩ (PA (not_t h14) trivial))) (PC c13 PN) LN hq
def z42 (n : Int) (d : List Int) (t3a t4b : Nat) : LSt := ⟨mkE 60 0 [(1,.ptr 1001 0),(3,iD (↑t3a : Int)),(4,iD (↑t4b : Int))],[(1001,⟨true,.var [iD n,.immI .i64 d]⟩)]⟩
def zbc (n : Int) (d : List Int) (t3a : Nat) : OutL := .ret ⟨mkE 60 0 [(1,.ptr 1001 0),(2,.bool false),(3,iD (↑t3a : Int))],[(1001,⟨true,.var [iD n,.immI .i64 d]⟩)]⟩
def zbd (n : Int) (d : List Int) (t3a : Nat) : OutL := .exit 2 ⟨mkE 60 0 [(1,.ptr 1001 0),(3,iD (↑t3a : Int))],[(1001,⟨true,.var [iD n,.immI .i64 d]⟩)]⟩
section
variable {Q : Out -> Prop} {n : Int} {d : List Int} (h6 : (↑d.length : Int) = n) {t3a : Nat} (h11 : (↑t3a : Int) < n)
include h6 h11
section
variable {t4b : Nat} (h16 : (↑t4b : Int) < n) {b17 : Bool} (c18 : Runs X F.z2f [iD (d.getD t3a 0),iD (↑t4b : Int)] [] (boolR b17)) {b19 : Bool} (c20 : Runs X F.z2f [iD (d.getD t4b 0),iD (↑t3a : Int)] [] (boolR b19))
include h16 c18 c20
theorem zzw (h21 : ¬b17 = b19) (hq : Q (zbc n d t3a).out) : wq F.za 2 Tryz.f96 1 (z42 n d t3a t4b) Q :=
 RS [true,true] (zbc n d t3a) [decide ((↑t4b : Int) < n) = true,(0 : Int) <= (↑t3a : Int) /\ (↑t3a : Int) < (↑d.length : Int),(0 : Int) <= (↑t4b : Int) /\ (↑t4b : Int) < (↑d.length : Int),(!b17 == b19) = true] (PA (decide_eq_true h16) (PA ⟨(by omega),(by omega)⟩ (PA ⟨(by omega),(by omega)⟩ (PA (not_t (beq_false_of_ne h21)) trivial)))) (PC c18 (PC c20 PN)) LN hq
theorem zzx (h22 : b17 = b19) (h23 : (↑t4b : Int) + (1 : Int) <= (9223372036854775807 : Int)) (hq : wq F.za 2 Tryz.f96 1 (z42 n d t3a (t4b + 1)) Q) : wq F.za 2 Tryz.f96 1 (z42 n d t3a t4b) Q :=
 RS [true,false] (.normal (z42 n d t3a (t4b + 1))) [decide ((↑t4b : Int) < n) = true,(0 : Int) <= (↑t3a : Int) /\ (↑t3a : Int) < (↑d.length : Int),(0 : Int) <= (↑t4b : Int) /\ (↑t4b : Int) < (↑d.length : Int),(!b17 == b19) = false,inR ((↑t4b : Int) + (1 : Int))] (PA (decide_eq_true h16) (PA ⟨(by omega),(by omega)⟩ (PA ⟨(by omega),(by omega)⟩ (PA (not_f (beq_iff_eq.2 h22)) (PA ⟨(by omega),h23⟩ trivial))))) (PC c18 (PC c20 PN)) LN hq
end
theorem zzy {t4b : Nat} (h24 : ¬(↑t4b : Int) < n) (hq : Q (zbd n d t3a).out) : wq F.za 2 Tryz.f96 1 (z42 n d t3a t4b) Q :=
 RS [false] (zbd n d t3a) [decide ((↑t4b : Int) < n) = false] (PA (decide_eq_false h24) trivial) PN LN hq
section
variable {b12 : Bool} (c13 : Runs X F.z2f [iD (d.getD t3a 0),iD (↑t3a : Int)] [] (boolR b12)) (h15 : b12 = true)
include c13 h15
theorem zzt (l25 : wl F.za 2 Tryz.f96 1 (z42 n d t3a 0) (zbc n d t3a)) (hq : Q (z7d).out) : wq F.za 0 Tryz.f96 0 (z41 n d t3a) Q :=
 RS [true,false] (z7d) [decide ((↑t3a : Int) < n) = true,(0 : Int) <= (↑t3a : Int) /\ (↑t3a : Int) < (↑d.length : Int),(!b12) = false] (PA (decide_eq_true h11) (PA ⟨(by omega),(by omega)⟩ (PA (not_f h15) trivial))) (PC c13 PN) (LC l25 LN) hq
theorem zzu (l26 : wl F.za 2 Tryz.f96 1 (z42 n d t3a 0) (zbd n d t3a)) (h27 : (↑t3a : Int) + (1 : Int) <= (9223372036854775807 : Int)) (hq : wq F.za 0 Tryz.f96 0 (z41 n d (t3a + 1)) Q) : wq F.za 0 Tryz.f96 0 (z41 n d t3a) Q :=
 RS [true,false] (.normal (z41 n d (t3a + 1))) [decide ((↑t3a : Int) < n) = true,(0 : Int) <= (↑t3a : Int) /\ (↑t3a : Int) < (↑d.length : Int),(!b12) = false,inR ((↑t3a : Int) + (1 : Int))] (PA (decide_eq_true h11) (PA ⟨(by omega),(by omega)⟩ (PA (not_f h15) (PA ⟨(by omega),h27⟩ trivial)))) (PC c13 PN) (LC l26 LN) hq
end
end
theorem zzv {Q : Out -> Prop} {n : Int} {d : List Int} (h6 : (↑d.length : Int) = n) {t3a : Nat} (h28 : ¬(↑t3a : Int) < n) (hq : Q (zbb).out) : wq F.za 0 Tryz.f96 0 (z41 n d t3a) Q :=
 RS [false] (zbb) [decide ((↑t3a : Int) < n) = false] (PA (decide_eq_false h28) trivial) PN LN hq
section
variable {n : Int} {d : List Int} {b1 : Bool} (c2 : Runs X F.z2g [iD n,iD 0,iD 8] [] (boolR b1)) (h4 : b1 = true) (h6 : (↑d.length : Int) = n) {b7 : Bool} (c8 : Runs X F.z23 [iD n,.immI .i64 d] [] (boolR b7)) (h10 : b7 = true)
include c2 h4 h6 c8 h10
theorem zzq (l29 : wl F.za 0 Tryz.f96 0 (z41 n d 0) z7d) : Runs X F.za [alD n d] [] (boolR false) :=
 RG z8s [false,false,false,false,false,false,false,false,false,false,false,false,false,false,false] [(!b1) = false,(!b1) = false,(!b1) = false,(!b1) = false,(!b1) = false,(!b1) = false,(!b1) = false,((↑d.length : Int) != n) = false,((↑d.length : Int) != n) = false,((↑d.length : Int) != n) = false,((↑d.length : Int) != n) = false,((↑d.length : Int) != n) = false,((↑d.length : Int) != n) = false,((↑d.length : Int) != n) = false,(!b7) = false] (PA (not_f h4) (PA (not_f h4) (PA (not_f h4) (PA (not_f h4) (PA (not_f h4) (PA (not_f h4) (PA (not_f h4) (PA (bne_eq_false_iff_eq.2 h6) (PA (bne_eq_false_iff_eq.2 h6) (PA (bne_eq_false_iff_eq.2 h6) (PA (bne_eq_false_iff_eq.2 h6) (PA (bne_eq_false_iff_eq.2 h6) (PA (bne_eq_false_iff_eq.2 h6) (PA (bne_eq_false_iff_eq.2 h6) (PA (not_f h10) trivial))))))))))))))) (PC c2 (PC c8 PN)) (LC l29 LN)
theorem zzr (l30 : wl F.za 0 Tryz.f96 0 (z41 n d 0) zbb) : Runs X F.za [alD n d] [] (boolR true) :=
 RG z8s [false,false,false,false,false,false,false,false,false,false,false,false,false,false,false] [(!b1) = false,(!b1) = false,(!b1) = false,(!b1) = false,(!b1) = false,(!b1) = false,(!b1) = false,((↑d.length : Int) != n) = false,((↑d.length : Int) != n) = false,((↑d.length : Int) != n) = false,((↑d.length : Int) != n) = false,((↑d.length : Int) != n) = false,((↑d.length : Int) != n) = false,((↑d.length : Int) != n) = false,(!b7) = false] (PA (not_f h4) (PA (not_f h4) (PA (not_f h4) (PA (not_f h4) (PA (not_f h4) (PA (not_f h4) (PA (not_f h4) (PA (bne_eq_false_iff_eq.2 h6) (PA (bne_eq_false_iff_eq.2 h6) (PA (bne_eq_false_iff_eq.2 h6) (PA (bne_eq_false_iff_eq.2 h6) (PA (bne_eq_false_iff_eq.2 h6) (PA (bne_eq_false_iff_eq.2 h6) (PA (bne_eq_false_iff_eq.2 h6) (PA (not_f h10) trivial))))))))))))))) (PC c2 (PC c8 PN)) (LC l30 LN)
end
theorem z106 : X.ft F.z2x = some Tryz.f79 := by kernel_rfl
def z7e (w : List Int) (t4a : Int) (r3a : List Int) : LSt := ⟨mkE 21 0 [(0,.immI .i64 w),(3,.rsl 3 0 r3a.length),(4,iD t4a)],[(3,⟨true,.ints .i64 r3a⟩)]⟩
def zbf (r3az : List Int) : OutL := .exit 0 ⟨mkE 21 0 [(3,.rsl 3 0 r3az.length)],[(3,⟨true,.ints .i64 r3az⟩)]⟩
section
variable {Q : Out -> Prop} {w : List Int} (h1 : (↑w.length : Int) - (1 : Int) <= (9223372036854775807 : Int)) {t4a : Int} {r3a : List Int}
include h1
theorem z108 (h2 : t4a >= (0 : Int)) (h3 : t4a < (↑w.length : Int)) (h4 : r3a.length + 1 <= 1099511627776) (hq : wq F.z2x 0 Tryz.f79 0 (z7e w (t4a - (1 : Int)) (r3a ++ [w.getD t4a.toNat 0])) Q) : wq F.z2x 0 Tryz.f79 0 (z7e w t4a r3a) Q :=
 RS [true,true,true,true] (.normal (z7e w (t4a - (1 : Int)) (r3a ++ [w.getD t4a.toNat 0]))) [decide (t4a >= (0 : Int)) = true,(0 : Int) <= t4a /\ t4a < (↑w.length : Int),1 <= 1,0 = 0 /\ 1 = 1,0 + r3a.length = r3a.length /\ r3a.length + 1 <= 1099511627776,0 = 0 /\ r3a.length = r3a.length,inR (t4a - (1 : Int))] (PA (decide_eq_true h2) (PA ⟨h2,h3⟩ (PO (PA ⟨(by omega),(by first|omega|simp)⟩ (PA ⟨(by first|omega|simp),h4⟩ (PA ⟨(by first|omega|simp),(by omega)⟩ (PA ⟨(by omega),(by omega)⟩ trivial))))))) PN LN hq
theorem z109 (h5 : ¬t4a >= (0 : Int)) (hq : Q (zbf r3a).out) : wq F.z2x 0 Tryz.f79 0 (z7e w t4a r3a) Q :=
 RS [false] (zbf r3a) [decide (t4a >= (0 : Int)) = false] (PA (decide_eq_false h5) trivial) PN LN hq
end
theorem z107 {w : List Int} (h1 : (↑w.length : Int) - (1 : Int) <= (9223372036854775807 : Int)) {r3az : List Int} (l6 : wl F.z2x 0 Tryz.f79 0 (z7e w ((↑w.length : Int) - (1 : Int)) []) (zbf r3az)) : Runs X F.z2x [.immI .i64 w] [] (rowR r3az) :=
 RG z106 [] [inR ((↑w.length : Int) - (1 : Int))] (PA ⟨(by omega),h1⟩ trivial) PN (LC l6 LN)
theorem zl7 : X.ft F.zo = some Tryz.f77 := by kernel_rfl
def z2h (n : Int) (d w : List Int) (a : Int) (t7a : Nat) : LSt := ⟨mkE 28 0 [(1,.immI .i64 w),(2,iD a),(3,.ptr 1003 0),(7,iD (↑t7a : Int))],[(1003,⟨true,.var [iD n,.immI .i64 d]⟩)]⟩
def z63 (t6az : Int) : OutL := .ret ⟨mkE 28 0 [(6,iD t6az)],[]⟩
def zbg : OutL := .exit 0 ⟨mkE 28 0 [],[]⟩
section
variable {Q : Out -> Prop} {n : Int} {d w : List Int} {a : Int} {t7a : Nat} (h1 : (↑t7a : Int) < (↑w.length : Int))
include h1
theorem z10b (h2 : w.getD t7a 0 = a) (hq : Q (z63 (↑t7a : Int)).out) : wq F.zo 0 Tryz.f77 0 (z2h n d w a t7a) Q :=
 RS [true,true] (z63 (↑t7a : Int)) [decide ((↑t7a : Int) < (↑w.length : Int)) = true,(0 : Int) <= (↑t7a : Int) /\ (↑t7a : Int) < (↑w.length : Int),(w.getD t7a 0 == a) = true] (PA (decide_eq_true h1) (PA ⟨(by omega),h1⟩ (PA (beq_iff_eq.2 h2) trivial))) PN LN hq
section
variable (h3 : ¬w.getD t7a 0 = a) {b4 : Bool} (c5 : Runs X F.z3a [alD n d,iD (w.getD t7a 0),iD a] [] (boolR b4))
include h3 c5
theorem z10c (h6 : b4 = true) (hq : Q (z63 (-1 : Int)).out) : wq F.zo 0 Tryz.f77 0 (z2h n d w a t7a) Q :=
 RS [true,false,true] (z63 (-1 : Int)) [decide ((↑t7a : Int) < (↑w.length : Int)) = true,(0 : Int) <= (↑t7a : Int) /\ (↑t7a : Int) < (↑w.length : Int),(w.getD t7a 0 == a) = false,(0 : Int) <= (↑t7a : Int) /\ (↑t7a : Int) < (↑w.length : Int),b4 = true] (PA (decide_eq_true h1) (PA ⟨(by omega),h1⟩ (PA (beq_false_of_ne h3) (PA ⟨(by omega),h1⟩ (PA h6 trivial))))) (PC c5 PN) LN hq
theorem z10d (h7 : b4 = false) (h8 : (↑t7a : Int) + (1 : Int) <= (9223372036854775807 : Int)) (hq : wq F.zo 0 Tryz.f77 0 (z2h n d w a (t7a + 1)) Q) : wq F.zo 0 Tryz.f77 0 (z2h n d w a t7a) Q :=
 RS [true,false,false] (.normal (z2h n d w a (t7a + 1))) [decide ((↑t7a : Int) < (↑w.length : Int)) = true,(0 : Int) <= (↑t7a : Int) /\ (↑t7a : Int) < (↑w.length : Int),(w.getD t7a 0 == a) = false,(0 : Int) <= (↑t7a : Int) /\ (↑t7a : Int) < (↑w.length : Int),b4 = false,inR ((↑t7a : Int) + (1 : Int))] (PA (decide_eq_true h1) (PA ⟨(by omega),h1⟩ (PA (beq_false_of_ne h3) (PA ⟨(by omega),h1⟩ (PA h7 (PA ⟨(by omega),h8⟩ trivial)))))) (PC c5 PN) LN hq
end
end
theorem z10e {Q : Out -> Prop} {n : Int} {d w : List Int} {a : Int} {t7a : Nat} (h9 : ¬(↑t7a : Int) < (↑w.length : Int)) (hq : Q (zbg).out) : wq F.zo 0 Tryz.f77 0 (z2h n d w a t7a) Q :=
 RS [false] (zbg) [decide ((↑t7a : Int) < (↑w.length : Int)) = false] (PA (decide_eq_false h9) trivial) PN LN hq
theorem zl8 {n : Int} {d w : List Int} {a t6az : Int} (l10 : wl F.zo 0 Tryz.f77 0 (z2h n d w a 0) (z63 t6az)) : Runs X F.zo [alD n d,.immI .i64 w,iD a] [] (intR t6az) :=
 RG zl7 [] [] trivial PN (LC l10 LN)
theorem z10a {n : Int} {d w : List Int} {a : Int} (l11 : wl F.zo 0 Tryz.f77 0 (z2h n d w a 0) zbg) : Runs X F.zo [alD n d,.immI .i64 w,iD a] [] ⟨iD (-1 : Int),[],[]⟩ :=
 RG zl7 [] [] trivial PN (LC l11 LN)
theorem z10f : X.ft F.z1i = some Tryz.f56 := by kernel_rfl
def z7f (n : Int) (d r5a r6a : List Int) : LSt := ⟨mkE 35 0 [(2,.ptr 1002 0),(5,.rsl 5 0 r5a.length),(6,.rsl 6 0 r6a.length)],[(1002,⟨true,.var [iD n,.immI .i64 d]⟩),(5,⟨true,.ints .i64 r5a⟩),(6,⟨true,.ints .i64 r6a⟩)]⟩
def zbh (r5az : List Int) : OutL := .exit 0 ⟨mkE 35 0 [(5,.rsl 5 0 r5az.length)],[(5,⟨true,.ints .i64 r5az⟩)]⟩
def z64 (n : Int) (d r5a r6a : List Int) (t7b : Nat) : LSt := ⟨mkE 35 0 [(2,.ptr 1002 0),(5,.rsl 5 0 r5a.length),(6,.rsl 6 0 r6a.length),(7,iD (↑t7b : Int))],[(1002,⟨true,.var [iD n,.immI .i64 d]⟩),(5,⟨true,.ints .i64 r5a⟩),(6,⟨true,.ints .i64 r6a⟩)]⟩
def zbi (n : Int) (d r5bz r6bz : List Int) : OutL := .exit 2 ⟨mkE 35 0 [(2,.ptr 1002 0),(5,.rsl 5 0 r5bz.length),(6,.rsl 6 0 r6bz.length)],[(1002,⟨true,.var [iD n,.immI .i64 d]⟩),(5,⟨true,.ints .i64 r5bz⟩),(6,⟨true,.ints .i64 r6bz⟩)]⟩
section
variable {Q : Out -> Prop} {n : Int} {d r5a r6a : List Int} (h3 : (↑r6a.length : Int) > (0 : Int)) {t7b : Nat} (h4 : (↑t7b : Int) < n) {r5 : Int} (c6 : Runs X F.zo [alD n d,.immI .i64 r6a,iD (↑t7b : Int)] [] (intR r5))
include h3 h4 c6
theorem z10j (h7 : r5 >= (0 : Int)) (h8 : r5a.length + 1 <= 1099511627776) {xs9 : List Int} (c10 : Runs X F.z2y [.immI .i64 r6a,iD r5] [] (rowR xs9)) (hq : Q (zbi n d (r5a ++ [(↑t7b : Int)]) xs9).out) : wq F.z1i 2 Tryz.f56 1 (z64 n d r5a r6a t7b) Q :=
 RS [true,true,true,true,true,true,true] (zbi n d (r5a ++ [(↑t7b : Int)]) xs9) [decide ((↑t7b : Int) < n) = true,0 + r6a.length <= r6a.length,0 = 0 /\ r6a.length = r6a.length,decide (r5 >= (0 : Int)) = true,1 <= 1,0 = 0 /\ 1 = 1,0 + r5a.length = r5a.length /\ r5a.length + 1 <= 1099511627776,0 = 0 /\ r5a.length = r5a.length,0 + r6a.length <= r6a.length,0 = 0 /\ r6a.length = r6a.length] (PA (decide_eq_true h4) (PO (PA ⟨(by first|omega|simp),(by omega)⟩ (PA (decide_eq_true h7) (PO (PA ⟨(by omega),(by first|omega|simp)⟩ (PA ⟨(by first|omega|simp),h8⟩ (PA ⟨(by first|omega|simp),(by omega)⟩ (PO (PA ⟨(by first|omega|simp),(by omega)⟩ trivial)))))))))) (PC c6 (PC c10 PN)) LN hq
theorem z10k (h11 : ¬r5 >= (0 : Int)) (h12 : (↑t7b : Int) + (1 : Int) <= (9223372036854775807 : Int)) (hq : wq F.z1i 2 Tryz.f56 1 (z64 n d r5a r6a (t7b + 1)) Q) : wq F.z1i 2 Tryz.f56 1 (z64 n d r5a r6a t7b) Q :=
 RS [true,true,false] (.normal (z64 n d r5a r6a (t7b + 1))) [decide ((↑t7b : Int) < n) = true,0 + r6a.length <= r6a.length,0 = 0 /\ r6a.length = r6a.length,decide (r5 >= (0 : Int)) = false,inR ((↑t7b : Int) + (1 : Int))] (PA (decide_eq_true h4) (PO (PA ⟨(by first|omega|simp),(by omega)⟩ (PA (decide_eq_false h11) (PA ⟨(by omega),h12⟩ trivial))))) (PC c6 PN) LN hq
end
section
variable {Q : Out -> Prop} {n : Int} {d r5a r6a : List Int}
theorem z10h (h3 : (↑r6a.length : Int) > (0 : Int)) {r5bz r6bz : List Int} (l14 : wl F.z1i 2 Tryz.f56 1 (z64 n d r5a r6a 0) (zbi n d r5bz r6bz)) (hq : wq F.z1i 0 Tryz.f56 0 (z7f n d r5bz r6bz) Q) : wq F.z1i 0 Tryz.f56 0 (z7f n d r5a r6a) Q :=
 RS [true] (.normal (z7f n d r5bz r6bz)) [decide ((↑r6a.length : Int) > (0 : Int)) = true] (PA (decide_eq_true h3) trivial) PN (LC l14 LN) hq
theorem z10i (h15 : ¬(↑r6a.length : Int) > (0 : Int)) (hq : Q (zbh r5a).out) : wq F.z1i 0 Tryz.f56 0 (z7f n d r5a r6a) Q :=
 RS [false] (zbh r5a) [decide ((↑r6a.length : Int) > (0 : Int)) = false] (PA (decide_eq_false h15) trivial) PN LN hq
end
theorem z10g {n : Int} {d w xs1 : List Int} (c2 : Runs X F.z18 [.immI .i64 w] [] (rowR xs1)) {r5az : List Int} (l16 : wl F.z1i 0 Tryz.f56 0 (z7f n d [] xs1) (zbh r5az)) : Runs X F.z1i [alD n d,.immI .i64 w] [] (rowR r5az) :=
 RG z10f [] [] trivial (PC c2 PN) (LC l16 LN)
theorem z10r : X.ft F.z2y = some Tryz.f78 := by kernel_rfl
theorem z10s {w : List Int} {i : Int} (h1 : (0 : Int) <= i) (h2 : i.toNat <= w.length) {xs3 : List Int} (c4 : Runs X F.z18 [.immI .i64 (List.take (i.toNat - 0) (List.drop 0 w))] [] (rowR xs3)) (h5 : i + (1 : Int) <= (9223372036854775807 : Int)) (h6 : (i + (1 : Int)).toNat <= w.length) (h7 : xs3.length + (List.take (w.length - (i + (1 : Int)).toNat) (List.drop (i + (1 : Int)).toNat w)).length <= 1099511627776) : Runs X F.z2y [.immI .i64 w,iD i] [] ⟨.rsl 600000 0 (xs3 ++ List.take (w.length - (i + (1 : Int)).toNat) (List.drop (i + (1 : Int)).toNat w)).length,[],[⟨true,.ints .i64 (xs3 ++ List.take (w.length - (i + (1 : Int)).toNat) (List.drop (i + (1 : Int)).toNat w))⟩]⟩ :=
 RG z10r [false,false,true,true] [(0 : Int) <= i,0 <= i.toNat /\ i.toNat <= w.length,0 + (i.toNat - 0) <= w.length,inR (i + (1 : Int)),(0 : Int) <= i + (1 : Int),(i + (1 : Int)).toNat <= w.length /\ w.length <= w.length,(i + (1 : Int)).toNat + (w.length - (i + (1 : Int)).toNat) <= w.length,0 + xs3.length = xs3.length /\ xs3.length + (List.take (w.length - (i + (1 : Int)).toNat) (List.drop (i + (1 : Int)).toNat w)).length <= 1099511627776,0 = 0 /\ xs3.length = xs3.length] (PA h1 (PA ⟨(by omega),h2⟩ (PO (PA ⟨(by omega),h5⟩ (PO (PA ⟨h6,(by omega)⟩ (PO (PA ⟨(by first|omega|simp),h7⟩ (PA ⟨(by first|omega|simp),(by omega)⟩ trivial))))))))) (PC c4 PN) LN
theorem z114 : X.ft F.z1k = some Tryz.f41 := by kernel_rfl
def z7h (w : List Int) (t4a : Int) (r3a : List Int) : LSt := ⟨mkE 22 0 [(0,.immI .i64 w),(3,.rsl 3 0 r3a.length),(4,iD t4a)],[(3,⟨true,.ints .i64 r3a⟩)]⟩
def zbr (r3az : List Int) : OutL := .exit 0 ⟨mkE 22 0 [(3,.rsl 3 0 r3az.length)],[(3,⟨true,.ints .i64 r3az⟩)]⟩
section
variable {Q : Out -> Prop} {w : List Int} (h1 : (↑w.length : Int) - (1 : Int) <= (9223372036854775807 : Int)) {t4a : Int} {r3a : List Int}
include h1
theorem z116 (h2 : t4a >= (0 : Int)) (h3 : t4a < (↑w.length : Int)) {r4 : Int} (c5 : Runs X F.z47 [iD (w.getD t4a.toNat 0)] [] (intR r4)) (h6 : r3a.length + 1 <= 1099511627776) (hq : wq F.z1k 0 Tryz.f41 0 (z7h w (t4a - (1 : Int)) (r3a ++ [r4])) Q) : wq F.z1k 0 Tryz.f41 0 (z7h w t4a r3a) Q :=
 RS [true,true,true,true] (.normal (z7h w (t4a - (1 : Int)) (r3a ++ [r4]))) [decide (t4a >= (0 : Int)) = true,(0 : Int) <= t4a /\ t4a < (↑w.length : Int),1 <= 1,0 = 0 /\ 1 = 1,0 + r3a.length = r3a.length /\ r3a.length + 1 <= 1099511627776,0 = 0 /\ r3a.length = r3a.length,inR (t4a - (1 : Int))] (PA (decide_eq_true h2) (PA ⟨h2,h3⟩ (PO (PA ⟨(by omega),(by first|omega|simp)⟩ (PA ⟨(by first|omega|simp),h6⟩ (PA ⟨(by first|omega|simp),(by omega)⟩ (PA ⟨(by omega),(by omega)⟩ trivial))))))) (PC c5 PN) LN hq
theorem z117 (h7 : ¬t4a >= (0 : Int)) (hq : Q (zbr r3a).out) : wq F.z1k 0 Tryz.f41 0 (z7h w t4a r3a) Q :=
 RS [false] (zbr r3a) [decide (t4a >= (0 : Int)) = false] (PA (decide_eq_false h7) trivial) PN LN hq
end
theorem z115 {w : List Int} (h1 : (↑w.length : Int) - (1 : Int) <= (9223372036854775807 : Int)) {r3az : List Int} (l8 : wl F.z1k 0 Tryz.f41 0 (z7h w ((↑w.length : Int) - (1 : Int)) []) (zbr r3az)) : Runs X F.z1k [.immI .i64 w] [] (rowR r3az) :=
 RG z114 [] [inR ((↑w.length : Int) - (1 : Int))] (PA ⟨(by omega),h1⟩ trivial) PN (LC l8 LN)
theorem zbs : X.ft F.z45 = some Tryz.f74 := by kernel_rfl
section
variable {n : Int} {d u v : List Int} {b1 : Bool} (c2 : Runs X F.za [alD n d] [] (boolR b1))
include c2
theorem z118 (h3 : b1 = false) : Runs X F.z45 [alD n d,.immI .i64 u,.immI .i64 v] [] ⟨iD 1,[],[]⟩ :=
 RG zbs [true] [(!b1) = true] (PA (not_t h3) trivial) (PC c2 PN) LN
section
variable (h4 : b1 = true) {b5 : Bool} (c6 : Runs X F.z1d [iD n,.immI .i64 u] [] (boolR b5))
include h4 c6
theorem z119 (h7 : b5 = false) : Runs X F.z45 [alD n d,.immI .i64 u,.immI .i64 v] [] ⟨iD 2,[],[]⟩ :=
 RG zbs [false,true,true,true,true,true,true,true] [(!b1) = false,(!b5) = true,(!b5) = true,(!b5) = true,(!b5) = true,(!b5) = true,(!b5) = true,true = true] (PA (not_f h4) (PA (not_t h7) (PA (not_t h7) (PA (not_t h7) (PA (not_t h7) (PA (not_t h7) (PA (not_t h7) (PO trivial)))))))) (PC c2 (PC c6 PN)) LN
section
variable (h8 : b5 = true) {b9 : Bool} (c10 : Runs X F.z1d [iD n,.immI .i64 v] [] (boolR b9))
include h8 c10
theorem z11a (h11 : b9 = false) : Runs X F.z45 [alD n d,.immI .i64 u,.immI .i64 v] [] ⟨iD 2,[],[]⟩ :=
 RG zbs [false,false,false,false,false,false,false,true] [(!b1) = false,(!b5) = false,(!b5) = false,(!b5) = false,(!b5) = false,(!b5) = false,(!b5) = false,(!b9) = true] (PA (not_f h4) (PA (not_f h8) (PA (not_f h8) (PA (not_f h8) (PA (not_f h8) (PA (not_f h8) (PA (not_f h8) (PA (not_t h11) trivial)))))))) (PC c2 (PC c6 (PC c10 PN))) LN
theorem z11b (h12 : b9 = true) : Runs X F.z45 [alD n d,.immI .i64 u,.immI .i64 v] [] ⟨iD 0,[],[]⟩ :=
 RG zbs [false,false,false,false,false,false,false,false] [(!b1) = false,(!b5) = false,(!b5) = false,(!b5) = false,(!b5) = false,(!b5) = false,(!b5) = false,(!b9) = false] (PA (not_f h4) (PA (not_f h8) (PA (not_f h8) (PA (not_f h8) (PA (not_f h8) (PA (not_f h8) (PA (not_f h8) (PA (not_f h12) trivial)))))))) (PC c2 (PC c6 (PC c10 PN))) LN
end
end
end
theorem z11c : X.ft F.zb = some Tryz.f36 := by kernel_rfl
def z7i (n : Int) (d : List Int) (b8a : Bool) (r6a r7a : List Int) : LSt := ⟨mkE 60 0 [(2,.ptr 1002 0),(6,.rsl 6 0 r6a.length),(7,.rsl 7 0 r7a.length),(8,.bool b8a)],[(1002,⟨true,.var [iD n,.immI .i64 d]⟩),(6,⟨true,.ints .i64 r6a⟩),(7,⟨true,.ints .i64 r7a⟩)]⟩
def zbt (n : Int) (d r6az r7az : List Int) : OutL := .exit 0 ⟨mkE 60 0 [(2,.ptr 1002 0),(6,.rsl 6 0 r6az.length),(7,.rsl 7 0 r7az.length)],[(1002,⟨true,.var [iD n,.immI .i64 d]⟩),(6,⟨true,.ints .i64 r6az⟩),(7,⟨true,.ints .i64 r7az⟩)]⟩
def z1r (n : Int) (d : List Int) (b8b : Bool) (t9b : Nat) (r6b r7b : List Int) : LSt := ⟨mkE 60 0 [(2,.ptr 1002 0),(6,.rsl 6 0 r6b.length),(7,.rsl 7 0 r7b.length),(8,.bool b8b),(9,iD (↑t9b : Int))],[(1002,⟨true,.var [iD n,.immI .i64 d]⟩),(6,⟨true,.ints .i64 r6b⟩),(7,⟨true,.ints .i64 r7b⟩)]⟩
def z66 (n : Int) (d : List Int) (b8bz : Bool) (r6bz r7bz : List Int) : OutL := .exit 2 ⟨mkE 60 0 [(2,.ptr 1002 0),(6,.rsl 6 0 r6bz.length),(7,.rsl 7 0 r7bz.length),(8,.bool b8bz)],[(1002,⟨true,.var [iD n,.immI .i64 d]⟩),(6,⟨true,.ints .i64 r6bz⟩),(7,⟨true,.ints .i64 r7bz⟩)]⟩
section
variable {Q : Out -> Prop} {n : Int} {d : List Int} {b8b : Bool} {t9b : Nat} {r6b r7b : List Int} (h4 : (↑t9b : Int) < n) (h5 : b8b = false) {r6 : Int} (c7 : Runs X F.zo [alD n d,.immI .i64 r6b,iD (↑t9b : Int)] [] (intR r6))
include h4 h5 c7
theorem zlj (h8 : r6 < (0 : Int)) (h9 : (↑t9b : Int) + (1 : Int) <= (9223372036854775807 : Int)) (hq : wq F.zb 2 Tryz.f36 1 (z1r n d b8b (t9b + 1) r6b r7b) Q) : wq F.zb 2 Tryz.f36 1 (z1r n d b8b t9b r6b r7b) Q :=
 RS [true,true,true,true,true,true] (.normal (z1r n d b8b (t9b + 1) r6b r7b)) [decide ((↑t9b : Int) < n) = true,decide ((↑t9b : Int) < n) = true,decide ((↑t9b : Int) < n) = true,(!b8b) = true,0 + r6b.length <= r6b.length,0 = 0 /\ r6b.length = r6b.length,decide (r6 < (0 : Int)) = true,inR ((↑t9b : Int) + (1 : Int))] (PA (decide_eq_true h4) (PA (decide_eq_true h4) (PA (decide_eq_true h4) (PA (not_t h5) (PO (PA ⟨(by first|omega|simp),(by omega)⟩ (PA (decide_eq_true h8) (PA ⟨(by omega),h9⟩ trivial)))))))) (PC c7 PN) LN hq
section
variable (h10 : ¬r6 < (0 : Int)) {xs11 : List Int} (c12 : Runs X F.z2y [.immI .i64 r6b,iD r6] [] (rowR xs11)) {xs13 : List Int} (c14 : Runs X F.z2x [.immI .i64 xs11] [] (rowR xs13)) {r15 : Int} (c16 : Runs X F.z47 [iD (↑t9b : Int)] [] (intR r15)) {r17 : Int} (c18 : Runs X F.zo [alD n d,.immI .i64 xs13,iD r15] [] (intR r17))
include h10 c12 c14 c16 c18
theorem z11e (h19 : r17 >= (0 : Int)) {xs20 : List Int} (c21 : Runs X F.z2y [.immI .i64 xs13,iD r17] [] (rowR xs20)) {xs22 : List Int} (c23 : Runs X F.z2x [.immI .i64 xs20] [] (rowR xs22)) (h24 : r7b.length + 1 <= 1099511627776) (h25 : (↑t9b : Int) + (1 : Int) <= (9223372036854775807 : Int)) (hq : wq F.zb 2 Tryz.f36 1 (z1r n d true (t9b + 1) xs22 (r7b ++ [(↑t9b : Int)])) Q) : wq F.zb 2 Tryz.f36 1 (z1r n d b8b t9b r6b r7b) Q :=
 RS [true,true,true,true,true,false,true,true,true,true,true,true,true,true,true] (.normal (z1r n d true (t9b + 1) xs22 (r7b ++ [(↑t9b : Int)]))) [decide ((↑t9b : Int) < n) = true,decide ((↑t9b : Int) < n) = true,decide ((↑t9b : Int) < n) = true,(!b8b) = true,0 + r6b.length <= r6b.length,0 = 0 /\ r6b.length = r6b.length,decide (r6 < (0 : Int)) = false,0 + r6b.length <= r6b.length,0 = 0 /\ r6b.length = r6b.length,0 + xs11.length <= xs11.length,0 = 0 /\ xs11.length = xs11.length,0 + xs13.length <= xs13.length,0 = 0 /\ xs13.length = xs13.length,decide (r17 >= (0 : Int)) = true,0 + xs13.length <= xs13.length,0 = 0 /\ xs13.length = xs13.length,0 + xs20.length <= xs20.length,0 = 0 /\ xs20.length = xs20.length,1 <= 1,0 = 0 /\ 1 = 1,0 + r7b.length = r7b.length /\ r7b.length + 1 <= 1099511627776,0 = 0 /\ r7b.length = r7b.length,inR ((↑t9b : Int) + (1 : Int))] (PA (decide_eq_true h4) (PA (decide_eq_true h4) (PA (decide_eq_true h4) (PA (not_t h5) (PO (PA ⟨(by first|omega|simp),(by omega)⟩ (PA (decide_eq_false h10) (PO (PA ⟨(by first|omega|simp),(by omega)⟩ (PO (PA ⟨(by first|omega|simp),(by omega)⟩ (PO (PA ⟨(by first|omega|simp),(by omega)⟩ (PA (decide_eq_true h19) (PO (PA ⟨(by first|omega|simp),(by omega)⟩ (PO (PA ⟨(by first|omega|simp),(by omega)⟩ (PO (PA ⟨(by omega),(by first|omega|simp)⟩ (PA ⟨(by first|omega|simp),h24⟩ (PA ⟨(by first|omega|simp),(by omega)⟩ (PA ⟨(by omega),h25⟩ trivial))))))))))))))))))))))) (PC c7 (PC c12 (PC c14 (PC c16 (PC c18 (PC c21 (PC c23 PN))))))) LN hq
theorem zlk (h26 : ¬r17 >= (0 : Int)) (h27 : (↑t9b : Int) + (1 : Int) <= (9223372036854775807 : Int)) (hq : wq F.zb 2 Tryz.f36 1 (z1r n d b8b (t9b + 1) r6b r7b) Q) : wq F.zb 2 Tryz.f36 1 (z1r n d b8b t9b r6b r7b) Q :=
 RS [true,true,true,true,true,false,true,true,true,false] (.normal (z1r n d b8b (t9b + 1) r6b r7b)) [decide ((↑t9b : Int) < n) = true,decide ((↑t9b : Int) < n) = true,decide ((↑t9b : Int) < n) = true,(!b8b) = true,0 + r6b.length <= r6b.length,0 = 0 /\ r6b.length = r6b.length,decide (r6 < (0 : Int)) = false,0 + r6b.length <= r6b.length,0 = 0 /\ r6b.length = r6b.length,0 + xs11.length <= xs11.length,0 = 0 /\ xs11.length = xs11.length,0 + xs13.length <= xs13.length,0 = 0 /\ xs13.length = xs13.length,decide (r17 >= (0 : Int)) = false,inR ((↑t9b : Int) + (1 : Int))] (PA (decide_eq_true h4) (PA (decide_eq_true h4) (PA (decide_eq_true h4) (PA (not_t h5) (PO (PA ⟨(by first|omega|simp),(by omega)⟩ (PA (decide_eq_false h10) (PO (PA ⟨(by first|omega|simp),(by omega)⟩ (PO (PA ⟨(by first|omega|simp),(by omega)⟩ (PO (PA ⟨(by first|omega|simp),(by omega)⟩ (PA (decide_eq_false h26) (PA ⟨(by omega),h27⟩ trivial))))))))))))))) (PC c7 (PC c12 (PC c14 (PC c16 (PC c18 PN))))) LN hq
end
end
section
variable {Q : Out -> Prop} {n : Int} {d : List Int}
section
variable {b8b : Bool} {t9b : Nat} {r6b r7b : List Int}
theorem z11f (h4 : (↑t9b : Int) < n) (h28 : b8b = true) (hq : Q (z66 n d b8b r6b r7b).out) : wq F.zb 2 Tryz.f36 1 (z1r n d b8b t9b r6b r7b) Q :=
 RS [true,true,true,false] (z66 n d b8b r6b r7b) [decide ((↑t9b : Int) < n) = true,decide ((↑t9b : Int) < n) = true,decide ((↑t9b : Int) < n) = true,(!b8b) = false] (PA (decide_eq_true h4) (PA (decide_eq_true h4) (PA (decide_eq_true h4) (PA (not_f h28) trivial)))) PN LN hq
theorem zll (h29 : ¬(↑t9b : Int) < n) (hq : Q (z66 n d b8b r6b r7b).out) : wq F.zb 2 Tryz.f36 1 (z1r n d b8b t9b r6b r7b) Q :=
 RS [false,false,false,false] (z66 n d b8b r6b r7b) [decide ((↑t9b : Int) < n) = false,decide ((↑t9b : Int) < n) = false,decide ((↑t9b : Int) < n) = false,false = false] (PA (decide_eq_false h29) (PA (decide_eq_false h29) (PA (decide_eq_false h29) (PO trivial)))) PN LN hq
end
theorem zf3 {b8a : Bool} {r6a r7a : List Int} (h3 : b8a = true) {b8bz : Bool} {r6bz r7bz : List Int} (l30 : wl F.zb 2 Tryz.f36 1 (z1r n d false 0 r6a r7a) (z66 n d b8bz r6bz r7bz)) (hq : wq F.zb 0 Tryz.f36 0 (z7i n d b8bz r6bz r7bz) Q) : wq F.zb 0 Tryz.f36 0 (z7i n d b8a r6a r7a) Q :=
 RS [true] (.normal (z7i n d b8bz r6bz r7bz)) [b8a = true] (PA h3 trivial) PN (LC l30 LN) hq
theorem zli {b8a : Bool} {r6a r7a : List Int} (h31 : b8a = false) (hq : Q (zbt n d r6a r7a).out) : wq F.zb 0 Tryz.f36 0 (z7i n d b8a r6a r7a) Q :=
 RS [false] (zbt n d r6a r7a) [b8a = false] (PA h31 trivial) PN LN hq
end
theorem z11d {n : Int} {d w xs1 : List Int} (c2 : Runs X F.z18 [.immI .i64 w] [] (rowR xs1)) {r6az r7az : List Int} (l32 : wl F.zb 0 Tryz.f36 0 (z7i n d true xs1 []) (zbt n d r6az r7az)) {xs33 : List Int} (c34 : Runs X F.z1i [alD n d,.immI .i64 r6az] [] (rowR xs33)) {xs35 : List Int} (c36 : Runs X F.z8 [alD n d,.immI .i64 r7az] [] (rowR xs35)) : Runs X F.zb [alD n d,.immI .i64 w] [] ⟨.tup [.rsl 600000 0 xs33.length,.rsl 600001 0 xs35.length],[],[⟨true,.ints .i64 xs33⟩,⟨true,.ints .i64 xs35⟩]⟩ :=
 RG z11c [true,true] [0 + r6az.length <= r6az.length,0 = 0 /\ r6az.length = r6az.length,0 + r7az.length <= r7az.length,0 = 0 /\ r7az.length = r7az.length] (PO (PA ⟨(by first|omega|simp),(by omega)⟩ (PO (PA ⟨(by first|omega|simp),(by omega)⟩ trivial)))) (PC c2 (PC c34 (PC c36 PN))) (LC l32 LN)
theorem z11g : X.ft F.zi = some Tryz.f35 := by kernel_rfl
def z7j (n : Int) (d : List Int) (t4a : Nat) (r2003001a : List Int) : LSt := ⟨mkE 43 0 [(1,.ptr 1001 0),(2,.ptr 1002 0),(3,.ptr 1003 0),(4,iD (↑t4a : Int))],[(1001,⟨true,.var [iD n,.immI .i64 d]⟩),(1002,⟨true,.var [iD 0,.nil NK.unk]⟩),(1003,⟨true,.var [iD ((2 : Int) * n),.rsl 2003001 0 r2003001a.length]⟩),(2003001,⟨true,.ints .i64 r2003001a⟩)]⟩
def zf4 (n : Int) (r2003001az : List Int) : OutL := .exit 0 ⟨mkE 43 0 [(2,.ptr 1002 0),(3,.ptr 1003 0)],[(1002,⟨true,.var [iD 0,.nil NK.unk]⟩),(1003,⟨true,.var [iD ((2 : Int) * n),.rsl 2003001 0 r2003001az.length]⟩),(2003001,⟨true,.ints .i64 r2003001az⟩)]⟩
def z3b (n : Int) (d : List Int) (t4a : Nat) (r2003001a : List Int) (t5b : Int) (t6b : Nat) : LSt := ⟨mkE 43 0 [(1,.ptr 1001 0),(2,.ptr 1002 0),(3,.ptr 1003 0),(4,iD (↑t4a : Int)),(5,iD t5b),(6,iD (↑t6b : Int))],[(1001,⟨true,.var [iD n,.immI .i64 d]⟩),(1002,⟨true,.var [iD 0,.nil NK.unk]⟩),(1003,⟨true,.var [iD ((2 : Int) * n),.rsl 2003001 0 r2003001a.length]⟩),(2003001,⟨true,.ints .i64 r2003001a⟩)]⟩
def z8u (n : Int) (d : List Int) (t4a : Nat) (r2003001a : List Int) (t5bz : Int) : OutL := .exit 2 ⟨mkE 43 0 [(1,.ptr 1001 0),(2,.ptr 1002 0),(3,.ptr 1003 0),(4,iD (↑t4a : Int)),(5,iD t5bz)],[(1001,⟨true,.var [iD n,.immI .i64 d]⟩),(1002,⟨true,.var [iD 0,.nil NK.unk]⟩),(1003,⟨true,.var [iD ((2 : Int) * n),.rsl 2003001 0 r2003001a.length]⟩),(2003001,⟨true,.ints .i64 r2003001a⟩)]⟩
section
variable {Q : Out -> Prop} {n : Int} {d : List Int} (h1 : (-9223372036854775808 : Int) <= (2 : Int) * n) (h2 : (2 : Int) * n <= (9223372036854775807 : Int)) {t4a : Nat} {r2003001a : List Int}
include h1 h2
section
variable (h3 : (↑t4a : Int) < (2 : Int) * n) {t5b : Int} {t6b : Nat} (h4 : (↑t6b : Int) < (2 : Int) * n) (h5 : (-9223372036854775808 : Int) <= (↑t4a : Int).tdiv (2 : Int)) (h6 : (↑t4a : Int).tdiv (2 : Int) <= (9223372036854775807 : Int)) (h7 : (-9223372036854775808 : Int) <= (↑t6b : Int).tdiv (2 : Int)) (h8 : (↑t6b : Int).tdiv (2 : Int) <= (9223372036854775807 : Int)) {b9 : Bool} (c10 : Runs X F.z3a [alD n d,iD ((↑t4a : Int).tdiv (2 : Int)),iD ((↑t6b : Int).tdiv (2 : Int))] [] (boolR b9))
include h3 h4 h5 h6 h7 h8 c10
theorem z11k (h11 : b9 = true) {r12 : Int} (c13 : Runs X F.z2w [iD (↑t6b : Int)] [] (intR r12)) (hq : wq F.zi 2 Tryz.f35 1 (z3b n d t4a r2003001a (ior t5b r12) (t6b + 1)) Q) : wq F.zi 2 Tryz.f35 1 (z3b n d t4a r2003001a t5b t6b) Q :=
 RS [true,true] (.normal (z3b n d t4a r2003001a (ior t5b r12) (t6b + 1))) [inR ((2 : Int) * n),decide ((↑t6b : Int) < (2 : Int) * n) = true,(2 : Int) ≠ (0 : Int),inR ((↑t4a : Int).tdiv (2 : Int)),(2 : Int) ≠ (0 : Int),inR ((↑t6b : Int).tdiv (2 : Int)),b9 = true,inR ((↑t6b : Int) + (1 : Int))] (PA ⟨h1,h2⟩ (PA (decide_eq_true h4) (PO (PA ⟨h5,h6⟩ (PO (PA ⟨h7,h8⟩ (PA h11 (PA ⟨(by omega),(by omega)⟩ trivial)))))))) (PC c10 (PC c13 PN)) LN hq
theorem z11l (h14 : b9 = false) (hq : wq F.zi 2 Tryz.f35 1 (z3b n d t4a r2003001a t5b (t6b + 1)) Q) : wq F.zi 2 Tryz.f35 1 (z3b n d t4a r2003001a t5b t6b) Q :=
 RS [true,false] (.normal (z3b n d t4a r2003001a t5b (t6b + 1))) [inR ((2 : Int) * n),decide ((↑t6b : Int) < (2 : Int) * n) = true,(2 : Int) ≠ (0 : Int),inR ((↑t4a : Int).tdiv (2 : Int)),(2 : Int) ≠ (0 : Int),inR ((↑t6b : Int).tdiv (2 : Int)),b9 = false,inR ((↑t6b : Int) + (1 : Int))] (PA ⟨h1,h2⟩ (PA (decide_eq_true h4) (PO (PA ⟨h5,h6⟩ (PO (PA ⟨h7,h8⟩ (PA h14 (PA ⟨(by omega),(by omega)⟩ trivial)))))))) (PC c10 PN) LN hq
end
theorem z11m (h3 : (↑t4a : Int) < (2 : Int) * n) {t5b : Int} {t6b : Nat} (h15 : ¬(↑t6b : Int) < (2 : Int) * n) (hq : Q (z8u n d t4a r2003001a t5b).out) : wq F.zi 2 Tryz.f35 1 (z3b n d t4a r2003001a t5b t6b) Q :=
 RS [false] (z8u n d t4a r2003001a t5b) [inR ((2 : Int) * n),decide ((↑t6b : Int) < (2 : Int) * n) = false] (PA ⟨h1,h2⟩ (PA (decide_eq_false h15) trivial)) PN LN hq
theorem z11i (h3 : (↑t4a : Int) < (2 : Int) * n) {t5bz : Int} (l16 : wl F.zi 2 Tryz.f35 1 (z3b n d t4a r2003001a (0 : Int) 0) (z8u n d t4a r2003001a t5bz)) (h17 : r2003001a.length + 1 <= 1099511627776) (hq : wq F.zi 0 Tryz.f35 0 (z7j n d (t4a + 1) (r2003001a ++ [t5bz])) Q) : wq F.zi 0 Tryz.f35 0 (z7j n d t4a r2003001a) Q :=
 RS [true,true,true,true] (.normal (z7j n d (t4a + 1) (r2003001a ++ [t5bz]))) [inR ((2 : Int) * n),decide ((↑t4a : Int) < (2 : Int) * n) = true,1 <= 1,0 = 0 /\ 1 = 1,0 + r2003001a.length = r2003001a.length /\ r2003001a.length + 1 <= 1099511627776,0 = 0 /\ r2003001a.length = r2003001a.length,inR ((↑t4a : Int) + (1 : Int))] (PA ⟨h1,h2⟩ (PA (decide_eq_true h3) (PO (PA ⟨(by omega),(by first|omega|simp)⟩ (PA ⟨(by first|omega|simp),h17⟩ (PA ⟨(by first|omega|simp),(by omega)⟩ (PA ⟨(by omega),(by omega)⟩ trivial))))))) PN (LC l16 LN) hq
theorem z11j (h18 : ¬(↑t4a : Int) < (2 : Int) * n) (hq : Q (zf4 n r2003001a).out) : wq F.zi 0 Tryz.f35 0 (z7j n d t4a r2003001a) Q :=
 RS [false] (zf4 n r2003001a) [inR ((2 : Int) * n),decide ((↑t4a : Int) < (2 : Int) * n) = false] (PA ⟨h1,h2⟩ (PA (decide_eq_false h18) trivial)) PN LN hq
end
theorem z11h {n : Int} {d : List Int} (h1 : (-9223372036854775808 : Int) <= (2 : Int) * n) (h2 : (2 : Int) * n <= (9223372036854775807 : Int)) {r2003001az : List Int} (l19 : wl F.zi 0 Tryz.f35 0 (z7j n d 0 []) (zf4 n r2003001az)) : Runs X F.zi [alD n d] [] ⟨.agg [iD ((2 : Int) * n),.rsl 600000 0 r2003001az.length],[],[⟨true,.ints .i64 r2003001az⟩]⟩ :=
 RG z11g [] [inR ((2 : Int) * n)] (PA ⟨h1,h2⟩ trivial) PN (LC l19 LN)
theorem z11y : X.ft F.zg = some Tryz.f38 := by kernel_rfl
def z46 (w : List Int) (t4a : Nat) (r3a : List Int) : LSt := ⟨mkE 36 0 [(0,.immI .i64 w),(3,.rsl 3 0 r3a.length),(4,iD (↑t4a : Int))],[(3,⟨true,.ints .i64 r3a⟩)]⟩
def zf6 (r3az : List Int) : OutL := .exit 0 ⟨mkE 36 0 [(3,.rsl 3 0 r3az.length)],[(3,⟨true,.ints .i64 r3az⟩)]⟩
section
variable {Q : Out -> Prop} {w : List Int} {t4a : Nat} {r3a : List Int}
section
variable (h1 : (↑t4a : Int) < (↑w.length : Int))
include h1
theorem z120 (h2 : w.getD t4a 0 > (0 : Int)) (h3 : (2 : Int) * w.getD t4a 0 <= (9223372036854775807 : Int)) (h4 : r3a.length + 1 <= 1099511627776) (h5 : (↑t4a : Int) + (1 : Int) <= (9223372036854775807 : Int)) (hq : wq F.zg 0 Tryz.f38 0 (z46 w (t4a + 1) (r3a ++ [(2 : Int) * w.getD t4a 0 - (2 : Int)])) Q) : wq F.zg 0 Tryz.f38 0 (z46 w t4a r3a) Q :=
 RS [true,true,true,true,true] (.normal (z46 w (t4a + 1) (r3a ++ [(2 : Int) * w.getD t4a 0 - (2 : Int)]))) [decide ((↑t4a : Int) < (↑w.length : Int)) = true,(0 : Int) <= (↑t4a : Int) /\ (↑t4a : Int) < (↑w.length : Int),decide (w.getD t4a 0 > (0 : Int)) = true,(0 : Int) <= (↑t4a : Int) /\ (↑t4a : Int) < (↑w.length : Int),inR ((2 : Int) * w.getD t4a 0),inR ((2 : Int) * w.getD t4a 0 - (2 : Int)),1 <= 1,0 = 0 /\ 1 = 1,0 + r3a.length = r3a.length /\ r3a.length + 1 <= 1099511627776,0 = 0 /\ r3a.length = r3a.length,inR ((↑t4a : Int) + (1 : Int))] (PA (decide_eq_true h1) (PA ⟨(by omega),h1⟩ (PA (decide_eq_true h2) (PA ⟨(by omega),h1⟩ (PA ⟨(by omega),h3⟩ (PA ⟨(by omega),(by omega)⟩ (PO (PA ⟨(by omega),(by first|omega|simp)⟩ (PA ⟨(by first|omega|simp),h4⟩ (PA ⟨(by first|omega|simp),(by omega)⟩ (PA ⟨(by omega),h5⟩ trivial))))))))))) PN LN hq
theorem z121 (h6 : ¬w.getD t4a 0 > (0 : Int)) (h7 : (-2 : Int) * w.getD t4a 0 <= (9223372036854775807 : Int)) (h8 : r3a.length + 1 <= 1099511627776) (h9 : (↑t4a : Int) + (1 : Int) <= (9223372036854775807 : Int)) (hq : wq F.zg 0 Tryz.f38 0 (z46 w (t4a + 1) (r3a ++ [(-2 : Int) * w.getD t4a 0 - (1 : Int)])) Q) : wq F.zg 0 Tryz.f38 0 (z46 w t4a r3a) Q :=
 RS [true,false,true,true,true] (.normal (z46 w (t4a + 1) (r3a ++ [(-2 : Int) * w.getD t4a 0 - (1 : Int)]))) [decide ((↑t4a : Int) < (↑w.length : Int)) = true,(0 : Int) <= (↑t4a : Int) /\ (↑t4a : Int) < (↑w.length : Int),decide (w.getD t4a 0 > (0 : Int)) = false,(0 : Int) <= (↑t4a : Int) /\ (↑t4a : Int) < (↑w.length : Int),inR ((-2 : Int) * w.getD t4a 0),inR ((-2 : Int) * w.getD t4a 0 - (1 : Int)),1 <= 1,0 = 0 /\ 1 = 1,0 + r3a.length = r3a.length /\ r3a.length + 1 <= 1099511627776,0 = 0 /\ r3a.length = r3a.length,inR ((↑t4a : Int) + (1 : Int))] (PA (decide_eq_true h1) (PA ⟨(by omega),h1⟩ (PA (decide_eq_false h6) (PA ⟨(by omega),h1⟩ (PA ⟨(by omega),h7⟩ (PA ⟨(by omega),(by omega)⟩ (PO (PA ⟨(by omega),(by first|omega|simp)⟩ (PA ⟨(by first|omega|simp),h8⟩ (PA ⟨(by first|omega|simp),(by omega)⟩ (PA ⟨(by omega),h9⟩ trivial))))))))))) PN LN hq
end
theorem z122 (h10 : ¬(↑t4a : Int) < (↑w.length : Int)) (hq : Q (zf6 r3a).out) : wq F.zg 0 Tryz.f38 0 (z46 w t4a r3a) Q :=
 RS [false] (zf6 r3a) [decide ((↑t4a : Int) < (↑w.length : Int)) = false] (PA (decide_eq_false h10) trivial) PN LN hq
end
theorem z11z {w r3az : List Int} (l11 : wl F.zg 0 Tryz.f38 0 (z46 w 0 []) (zf6 r3az)) : Runs X F.zg [.immI .i64 w] [] (rowR r3az) :=
 RG z11y [] [] trivial PN (LC l11 LN)
theorem z125 : X.ft F.z47 = some Tryz.f80 := by kernel_rfl
theorem z126 {i : Int} (h1 : (-9223372036854775808 : Int) <= i + (1 : Int)) (h2 : i + (1 : Int) <= (9223372036854775807 : Int)) (h3 : (-9223372036854775808 : Int) <= (2 : Int) * i.tmod (2 : Int)) (h4 : (2 : Int) * i.tmod (2 : Int) <= (9223372036854775807 : Int)) (h5 : (-9223372036854775808 : Int) <= i + (1 : Int) - (2 : Int) * i.tmod (2 : Int)) (h6 : i + (1 : Int) - (2 : Int) * i.tmod (2 : Int) <= (9223372036854775807 : Int)) : Runs X F.z47 [iD i] [] ⟨iD (i + (1 : Int) - (2 : Int) * i.tmod (2 : Int)),[],[]⟩ :=
 RG z125 [] [inR (i + (1 : Int)),(2 : Int) ≠ (0 : Int),inR ((2 : Int) * i.tmod (2 : Int)),inR (i + (1 : Int) - (2 : Int) * i.tmod (2 : Int))] (PA ⟨h1,h2⟩ (PO (PA ⟨h3,h4⟩ (PA ⟨h5,h6⟩ trivial)))) PN LN
theorem z127 : X.ft F.zj = some Tryz.f42 := by kernel_rfl
def z48 (w : List Int) (t4a : Nat) (r3a : List Int) : LSt := ⟨mkE 38 0 [(0,.immI .i64 w),(3,.rsl 3 0 r3a.length),(4,iD (↑t4a : Int))],[(3,⟨true,.ints .i64 r3a⟩)]⟩
def zf7 (r3az : List Int) : OutL := .exit 0 ⟨mkE 38 0 [(3,.rsl 3 0 r3az.length)],[(3,⟨true,.ints .i64 r3az⟩)]⟩
section
variable {Q : Out -> Prop} {w : List Int} {t4a : Nat} {r3a : List Int}
section
variable (h1 : (↑t4a : Int) < (↑w.length : Int))
include h1
theorem z129 (h2 : (w.getD t4a 0).tmod (2 : Int) = 0) (h3 : (-9223372036854775808 : Int) <= (w.getD t4a 0).tdiv (2 : Int)) (h4 : (w.getD t4a 0).tdiv (2 : Int) <= (9223372036854775807 : Int)) (h5 : (w.getD t4a 0).tdiv (2 : Int) + (1 : Int) <= (9223372036854775807 : Int)) (h6 : r3a.length + 1 <= 1099511627776) (h7 : (↑t4a : Int) + (1 : Int) <= (9223372036854775807 : Int)) (hq : wq F.zj 0 Tryz.f42 0 (z48 w (t4a + 1) (r3a ++ [(w.getD t4a 0).tdiv (2 : Int) + (1 : Int)])) Q) : wq F.zj 0 Tryz.f42 0 (z48 w t4a r3a) Q :=
 RS [true,true,true,true,true] (.normal (z48 w (t4a + 1) (r3a ++ [(w.getD t4a 0).tdiv (2 : Int) + (1 : Int)]))) [decide ((↑t4a : Int) < (↑w.length : Int)) = true,(0 : Int) <= (↑t4a : Int) /\ (↑t4a : Int) < (↑w.length : Int),(2 : Int) ≠ (0 : Int),((w.getD t4a 0).tmod (2 : Int) == (0 : Int)) = true,(0 : Int) <= (↑t4a : Int) /\ (↑t4a : Int) < (↑w.length : Int),(2 : Int) ≠ (0 : Int),inR ((w.getD t4a 0).tdiv (2 : Int)),inR ((w.getD t4a 0).tdiv (2 : Int) + (1 : Int)),1 <= 1,0 = 0 /\ 1 = 1,0 + r3a.length = r3a.length /\ r3a.length + 1 <= 1099511627776,0 = 0 /\ r3a.length = r3a.length,inR ((↑t4a : Int) + (1 : Int))] (PA (decide_eq_true h1) (PA ⟨(by omega),h1⟩ (PO (PA (beq_iff_eq.2 h2) (PA ⟨(by omega),h1⟩ (PO (PA ⟨h3,h4⟩ (PA ⟨(by omega),h5⟩ (PO (PA ⟨(by omega),(by first|omega|simp)⟩ (PA ⟨(by first|omega|simp),h6⟩ (PA ⟨(by first|omega|simp),(by omega)⟩ (PA ⟨(by omega),h7⟩ trivial))))))))))))) PN LN hq
theorem z12a (h8 : ¬(w.getD t4a 0).tmod (2 : Int) = 0) (h9 : (-9223372036854775808 : Int) <= (w.getD t4a 0).tdiv (2 : Int)) (h10 : (w.getD t4a 0).tdiv (2 : Int) <= (9223372036854775807 : Int)) (h11 : -(w.getD t4a 0).tdiv (2 : Int) <= (9223372036854775807 : Int)) (h12 : r3a.length + 1 <= 1099511627776) (h13 : (↑t4a : Int) + (1 : Int) <= (9223372036854775807 : Int)) (hq : wq F.zj 0 Tryz.f42 0 (z48 w (t4a + 1) (r3a ++ [-(w.getD t4a 0).tdiv (2 : Int) - (1 : Int)])) Q) : wq F.zj 0 Tryz.f42 0 (z48 w t4a r3a) Q :=
 RS [true,false,true,true,true] (.normal (z48 w (t4a + 1) (r3a ++ [-(w.getD t4a 0).tdiv (2 : Int) - (1 : Int)]))) [decide ((↑t4a : Int) < (↑w.length : Int)) = true,(0 : Int) <= (↑t4a : Int) /\ (↑t4a : Int) < (↑w.length : Int),(2 : Int) ≠ (0 : Int),((w.getD t4a 0).tmod (2 : Int) == (0 : Int)) = false,(0 : Int) <= (↑t4a : Int) /\ (↑t4a : Int) < (↑w.length : Int),(2 : Int) ≠ (0 : Int),inR ((w.getD t4a 0).tdiv (2 : Int)),inR (-(w.getD t4a 0).tdiv (2 : Int)),inR (-(w.getD t4a 0).tdiv (2 : Int) - (1 : Int)),1 <= 1,0 = 0 /\ 1 = 1,0 + r3a.length = r3a.length /\ r3a.length + 1 <= 1099511627776,0 = 0 /\ r3a.length = r3a.length,inR ((↑t4a : Int) + (1 : Int))] (PA (decide_eq_true h1) (PA ⟨(by omega),h1⟩ (PO (PA (beq_false_of_ne h8) (PA ⟨(by omega),h1⟩ (PO (PA ⟨h9,h10⟩ (PA ⟨(by omega),h11⟩ (PA ⟨(by omega),(by omega)⟩ (PO (PA ⟨(by omega),(by first|omega|simp)⟩ (PA ⟨(by first|omega|simp),h12⟩ (PA ⟨(by first|omega|simp),(by omega)⟩ (PA ⟨(by omega),h13⟩ trivial)))))))))))))) PN LN hq
end
theorem z12b (h14 : ¬(↑t4a : Int) < (↑w.length : Int)) (hq : Q (zf7 r3a).out) : wq F.zj 0 Tryz.f42 0 (z48 w t4a r3a) Q :=
 RS [false] (zf7 r3a) [decide ((↑t4a : Int) < (↑w.length : Int)) = false] (PA (decide_eq_false h14) trivial) PN LN hq
end
theorem z128 {w r3az : List Int} (l15 : wl F.zj 0 Tryz.f42 0 (z48 w 0 []) (zf7 r3az)) : Runs X F.zj [.immI .i64 w] [] (rowR r3az) :=
 RG z127 [] [] trivial PN (LC l15 LN)
theorem z12e : X.ft F.z8 = some Tryz.f37 := by kernel_rfl
def z7k (n : Int) (d : List Int) (t6a : Int) (r5a : List Int) : LSt := ⟨mkE 52 0 [(2,.ptr 1002 0),(5,.rsl 5 0 r5a.length),(6,iD t6a)],[(1002,⟨true,.var [iD n,.immI .i64 d]⟩),(5,⟨true,.ints .i64 r5a⟩)]⟩
def zbu (n : Int) (d r5az : List Int) : OutL := .exit 0 ⟨mkE 52 0 [(2,.ptr 1002 0),(5,.rsl 5 0 r5az.length)],[(1002,⟨true,.var [iD n,.immI .i64 d]⟩),(5,⟨true,.ints .i64 r5az⟩)]⟩
def z49 (n : Int) (d : List Int) (t6a : Int) (r5a : List Int) (t7b : Int) : LSt := ⟨mkE 52 0 [(2,.ptr 1002 0),(5,.rsl 5 0 r5a.length),(6,iD t6a),(7,iD t7b)],[(1002,⟨true,.var [iD n,.immI .i64 d]⟩),(5,⟨true,.ints .i64 r5a⟩)]⟩
def z2z (n : Int) (d : List Int) (t6bz : Int) (r5bz : List Int) : OutL := .exit 2 ⟨mkE 52 0 [(2,.ptr 1002 0),(5,.rsl 5 0 r5bz.length),(6,iD t6bz)],[(1002,⟨true,.var [iD n,.immI .i64 d]⟩),(5,⟨true,.ints .i64 r5bz⟩)]⟩
section
variable {Q : Out -> Prop} {n : Int} {d : List Int} {t6a : Int} {r5a : List Int} (h3 : t6a < (↑r5a.length : Int)) (h4 : (-9223372036854775808 : Int) <= t6a + (1 : Int)) (h5 : t6a + (1 : Int) <= (9223372036854775807 : Int))
include h3 h4 h5
section
variable {t7b : Int} (h6 : t7b < (↑r5a.length : Int)) (h7 : (0 : Int) <= t7b) (h8 : (0 : Int) <= t6a) {r9 : Int} (c10 : Runs X F.z47 [iD (r5a.getD (0 + t6a.toNat) 0)] [] (intR r9))
include h6 h7 h8 c10
theorem z12h (h11 : r5a.getD (0 + t7b.toNat) 0 = r9) {xs12 : List Int} (c13 : Runs X F.z2y [.immI .i64 r5a,iD t7b] [] (rowR xs12)) {xs14 : List Int} (c15 : Runs X F.z2y [.immI .i64 xs12,iD t6a] [] (rowR xs14)) (hq : Q (z2z n d (-1 : Int) xs14).out) : wq F.z8 2 Tryz.f37 1 (z49 n d t6a r5a t7b) Q :=
 RS [true,true,true,true] (z2z n d (-1 : Int) xs14) [decide (t7b < (↑r5a.length : Int)) = true,(0 : Int) <= t7b /\ t7b < (↑r5a.length : Int),0 + t7b.toNat < r5a.length,(0 : Int) <= t6a /\ t6a < (↑r5a.length : Int),0 + t6a.toNat < r5a.length,(r5a.getD (0 + t7b.toNat) 0 == r9) = true,0 + r5a.length <= r5a.length,0 = 0 /\ r5a.length = r5a.length,0 + xs12.length <= xs12.length,0 = 0 /\ xs12.length = xs12.length] (PA (decide_eq_true h6) (PA ⟨h7,h6⟩ (PO (PA ⟨h8,h3⟩ (PO (PA (beq_iff_eq.2 h11) (PO (PA ⟨(by first|omega|simp),(by omega)⟩ (PO (PA ⟨(by first|omega|simp),(by omega)⟩ trivial)))))))))) (PC c10 (PC c13 (PC c15 PN))) LN hq
section
variable (h16 : ¬r5a.getD (0 + t7b.toNat) 0 = r9) {b17 : Bool} (c18 : Runs X F.z3a [alD n d,iD (r5a.getD (0 + t6a.toNat) 0),iD (r5a.getD (0 + t7b.toNat) 0)] [] (boolR b17))
include h16 c18
theorem z12i (h19 : b17 = true) (hq : Q (z2z n d t6a r5a).out) : wq F.z8 2 Tryz.f37 1 (z49 n d t6a r5a t7b) Q :=
 RS [true,false,true] (z2z n d t6a r5a) [decide (t7b < (↑r5a.length : Int)) = true,(0 : Int) <= t7b /\ t7b < (↑r5a.length : Int),0 + t7b.toNat < r5a.length,(0 : Int) <= t6a /\ t6a < (↑r5a.length : Int),0 + t6a.toNat < r5a.length,(r5a.getD (0 + t7b.toNat) 0 == r9) = false,(0 : Int) <= t6a /\ t6a < (↑r5a.length : Int),0 + t6a.toNat < r5a.length,(0 : Int) <= t7b /\ t7b < (↑r5a.length : Int),0 + t7b.toNat < r5a.length,b17 = true] (PA (decide_eq_true h6) (PA ⟨h7,h6⟩ (PO (PA ⟨h8,h3⟩ (PO (PA (beq_false_of_ne h16) (PA ⟨h8,h3⟩ (PO (PA ⟨h7,h6⟩ (PO (PA h19 trivial))))))))))) (PC c10 (PC c18 PN)) LN hq
theorem z12j (h20 : b17 = false) (h21 : t7b + (1 : Int) <= (9223372036854775807 : Int)) (hq : wq F.z8 2 Tryz.f37 1 (z49 n d t6a r5a (t7b + (1 : Int))) Q) : wq F.z8 2 Tryz.f37 1 (z49 n d t6a r5a t7b) Q :=
 RS [true,false,false] (.normal (z49 n d t6a r5a (t7b + (1 : Int)))) [decide (t7b < (↑r5a.length : Int)) = true,(0 : Int) <= t7b /\ t7b < (↑r5a.length : Int),0 + t7b.toNat < r5a.length,(0 : Int) <= t6a /\ t6a < (↑r5a.length : Int),0 + t6a.toNat < r5a.length,(r5a.getD (0 + t7b.toNat) 0 == r9) = false,(0 : Int) <= t6a /\ t6a < (↑r5a.length : Int),0 + t6a.toNat < r5a.length,(0 : Int) <= t7b /\ t7b < (↑r5a.length : Int),0 + t7b.toNat < r5a.length,b17 = false,inR (t7b + (1 : Int))] (PA (decide_eq_true h6) (PA ⟨h7,h6⟩ (PO (PA ⟨h8,h3⟩ (PO (PA (beq_false_of_ne h16) (PA ⟨h8,h3⟩ (PO (PA ⟨h7,h6⟩ (PO (PA h20 (PA ⟨(by omega),h21⟩ trivial)))))))))))) (PC c10 (PC c18 PN)) LN hq
end
end
theorem z12k {t7b : Int} (h22 : ¬t7b < (↑r5a.length : Int)) (hq : Q (z2z n d t6a r5a).out) : wq F.z8 2 Tryz.f37 1 (z49 n d t6a r5a t7b) Q :=
 RS [false] (z2z n d t6a r5a) [decide (t7b < (↑r5a.length : Int)) = false] (PA (decide_eq_false h22) trivial) PN LN hq
theorem zlp {t6bz : Int} {r5bz : List Int} (l23 : wl F.z8 2 Tryz.f37 1 (z49 n d t6a r5a (t6a + (1 : Int))) (z2z n d t6bz r5bz)) (h24 : (-9223372036854775808 : Int) <= t6bz + (1 : Int)) (h25 : t6bz + (1 : Int) <= (9223372036854775807 : Int)) (hq : wq F.z8 0 Tryz.f37 0 (z7k n d (t6bz + (1 : Int)) r5bz) Q) : wq F.z8 0 Tryz.f37 0 (z7k n d t6a r5a) Q :=
 RS [true] (.normal (z7k n d (t6bz + (1 : Int)) r5bz)) [decide (t6a < (↑r5a.length : Int)) = true,inR (t6a + (1 : Int)),inR (t6bz + (1 : Int))] (PA (decide_eq_true h3) (PA ⟨h4,h5⟩ (PA ⟨h24,h25⟩ trivial))) PN (LC l23 LN) hq
end
theorem z12g {Q : Out -> Prop} {n : Int} {d : List Int} {t6a : Int} {r5a : List Int} (h26 : ¬t6a < (↑r5a.length : Int)) (hq : Q (zbu n d r5a).out) : wq F.z8 0 Tryz.f37 0 (z7k n d t6a r5a) Q :=
 RS [false] (zbu n d r5a) [decide (t6a < (↑r5a.length : Int)) = false] (PA (decide_eq_false h26) trivial) PN LN hq
theorem z12f {n : Int} {d w xs1 : List Int} (c2 : Runs X F.z18 [.immI .i64 w] [] (rowR xs1)) {r5az : List Int} (l27 : wl F.z8 0 Tryz.f37 0 (z7k n d (0 : Int) xs1) (zbu n d r5az)) {xs28 : List Int} (c29 : Runs X F.z1i [alD n d,.immI .i64 r5az] [] (rowR xs28)) : Runs X F.z8 [alD n d,.immI .i64 w] [] (rowR xs28) :=
 RG z12e [true] [0 + r5az.length <= r5az.length,0 = 0 /\ r5az.length = r5az.length] (PO (PA ⟨(by first|omega|simp),(by omega)⟩ trivial)) (PC c2 (PC c29 PN)) (LC l27 LN)
theorem zf8 : X.ft F.z1d = some Tryz.f106 := by kernel_rfl
theorem z12z {n : Int} {w : List Int} (h1 : (↑w.length : Int) > (24 : Int)) : Runs X F.z1d [iD n,.immI .i64 w] [] (boolR false) :=
 RG zf8 [true] [decide ((↑w.length : Int) > (24 : Int)) = true] (PA (decide_eq_true h1) trivial) PN LN
def z4a (n : Int) (w : List Int) (t5a : Nat) : LSt := ⟨mkE 31 0 [(0,iD n),(1,.immI .i64 w),(5,iD (↑t5a : Int))],[]⟩
def z7m : OutL := .ret ⟨mkE 31 0 [(4,.bool false)],[]⟩
def zbw : OutL := .exit 0 ⟨mkE 31 0 [],[]⟩
section
variable {Q : Out -> Prop} {n : Int} {w : List Int} (h2 : ¬(↑w.length : Int) > (24 : Int)) {t5a : Nat}
include h2
section
variable (h3 : (↑t5a : Int) < (↑w.length : Int))
include h3
theorem z132 (h4 : w.getD t5a 0 = 0) (hq : Q (z7m).out) : wq F.z1d 0 Tryz.f106 0 (z4a n w t5a) Q :=
 RS [true,true,true,true,true,true,true,true,true,true,true,true] (z7m) [decide ((↑t5a : Int) < (↑w.length : Int)) = true,(0 : Int) <= (↑t5a : Int) /\ (↑t5a : Int) < (↑w.length : Int),(w.getD t5a 0 == (0 : Int)) = true,(w.getD t5a 0 == (0 : Int)) = true,(w.getD t5a 0 == (0 : Int)) = true,(w.getD t5a 0 == (0 : Int)) = true,(w.getD t5a 0 == (0 : Int)) = true,(w.getD t5a 0 == (0 : Int)) = true,(w.getD t5a 0 == (0 : Int)) = true,(w.getD t5a 0 == (0 : Int)) = true,(w.getD t5a 0 == (0 : Int)) = true,(w.getD t5a 0 == (0 : Int)) = true,true = true] (PA (decide_eq_true h3) (PA ⟨(by omega),h3⟩ (PA (beq_iff_eq.2 h4) (PA (beq_iff_eq.2 h4) (PA (beq_iff_eq.2 h4) (PA (beq_iff_eq.2 h4) (PA (beq_iff_eq.2 h4) (PA (beq_iff_eq.2 h4) (PA (beq_iff_eq.2 h4) (PA (beq_iff_eq.2 h4) (PA (beq_iff_eq.2 h4) (PA (beq_iff_eq.2 h4) (PO trivial))))))))))))) PN LN hq
section
variable (h5 : ¬w.getD t5a 0 = 0) (h6 : (-9223372036854775808 : Int) <= -n) (h7 : -n <= (9223372036854775807 : Int)) {b8 : Bool} (c9 : Runs X F.z2g [iD (w.getD t5a 0),iD (-n),iD n] [] (boolR b8))
include h5 h6 h7 c9
theorem z133 (h10 : b8 = false) (hq : Q (z7m).out) : wq F.z1d 0 Tryz.f106 0 (z4a n w t5a) Q :=
 RS [true,false,false,false,false,false,false,false,false,false,false,true] (z7m) [decide ((↑t5a : Int) < (↑w.length : Int)) = true,(0 : Int) <= (↑t5a : Int) /\ (↑t5a : Int) < (↑w.length : Int),(w.getD t5a 0 == (0 : Int)) = false,(w.getD t5a 0 == (0 : Int)) = false,(w.getD t5a 0 == (0 : Int)) = false,(0 : Int) <= (↑t5a : Int) /\ (↑t5a : Int) < (↑w.length : Int),(w.getD t5a 0 == (0 : Int)) = false,(w.getD t5a 0 == (0 : Int)) = false,(w.getD t5a 0 == (0 : Int)) = false,inR (-n),(w.getD t5a 0 == (0 : Int)) = false,(w.getD t5a 0 == (0 : Int)) = false,(w.getD t5a 0 == (0 : Int)) = false,(w.getD t5a 0 == (0 : Int)) = false,(!b8) = true] (PA (decide_eq_true h3) (PA ⟨(by omega),h3⟩ (PA (beq_false_of_ne h5) (PA (beq_false_of_ne h5) (PA (beq_false_of_ne h5) (PA ⟨(by omega),h3⟩ (PA (beq_false_of_ne h5) (PA (beq_false_of_ne h5) (PA (beq_false_of_ne h5) (PA ⟨h6,h7⟩ (PA (beq_false_of_ne h5) (PA (beq_false_of_ne h5) (PA (beq_false_of_ne h5) (PA (beq_false_of_ne h5) (PA (not_t h10) trivial))))))))))))))) (PC c9 PN) LN hq
theorem z134 (h11 : b8 = true) (hq : wq F.z1d 0 Tryz.f106 0 (z4a n w (t5a + 1)) Q) : wq F.z1d 0 Tryz.f106 0 (z4a n w t5a) Q :=
 RS [true,false,false,false,false,false,false,false,false,false,false,false] (.normal (z4a n w (t5a + 1))) [decide ((↑t5a : Int) < (↑w.length : Int)) = true,(0 : Int) <= (↑t5a : Int) /\ (↑t5a : Int) < (↑w.length : Int),(w.getD t5a 0 == (0 : Int)) = false,(w.getD t5a 0 == (0 : Int)) = false,(w.getD t5a 0 == (0 : Int)) = false,(0 : Int) <= (↑t5a : Int) /\ (↑t5a : Int) < (↑w.length : Int),(w.getD t5a 0 == (0 : Int)) = false,(w.getD t5a 0 == (0 : Int)) = false,(w.getD t5a 0 == (0 : Int)) = false,inR (-n),(w.getD t5a 0 == (0 : Int)) = false,(w.getD t5a 0 == (0 : Int)) = false,(w.getD t5a 0 == (0 : Int)) = false,(w.getD t5a 0 == (0 : Int)) = false,(!b8) = false,inR ((↑t5a : Int) + (1 : Int))] (PA (decide_eq_true h3) (PA ⟨(by omega),h3⟩ (PA (beq_false_of_ne h5) (PA (beq_false_of_ne h5) (PA (beq_false_of_ne h5) (PA ⟨(by omega),h3⟩ (PA (beq_false_of_ne h5) (PA (beq_false_of_ne h5) (PA (beq_false_of_ne h5) (PA ⟨h6,h7⟩ (PA (beq_false_of_ne h5) (PA (beq_false_of_ne h5) (PA (beq_false_of_ne h5) (PA (beq_false_of_ne h5) (PA (not_f h11) (PA ⟨(by omega),(by omega)⟩ trivial)))))))))))))))) (PC c9 PN) LN hq
end
end
theorem z135 (h12 : ¬(↑t5a : Int) < (↑w.length : Int)) (hq : Q (zbw).out) : wq F.z1d 0 Tryz.f106 0 (z4a n w t5a) Q :=
 RS [false] (zbw) [decide ((↑t5a : Int) < (↑w.length : Int)) = false] (PA (decide_eq_false h12) trivial) PN LN hq
end
section
variable {n : Int} {w : List Int} (h2 : ¬(↑w.length : Int) > (24 : Int))
include h2
theorem z130 (l13 : wl F.z1d 0 Tryz.f106 0 (z4a n w 0) z7m) : Runs X F.z1d [iD n,.immI .i64 w] [] (boolR false) :=
 RG zf8 [false] [decide ((↑w.length : Int) > (24 : Int)) = false] (PA (decide_eq_false h2) trivial) PN (LC l13 LN)
theorem z131 (l14 : wl F.z1d 0 Tryz.f106 0 (z4a n w 0) zbw) : Runs X F.z1d [iD n,.immI .i64 w] [] (boolR true) :=
 RG zf8 [false] [decide ((↑w.length : Int) > (24 : Int)) = false] (PA (decide_eq_false h2) trivial) PN (LC l14 LN)
end
end Go.PR.S
