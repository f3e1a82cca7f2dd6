/- Path lemmas (written by Vc.lean). -/
import Derived.Test.YtnhklcbddcoadaaGreatDoorFwMk
set_option linter.unusedVariables false
set_option linter.unusedSimpArgs false
set_option linter.unusedSectionVars false
set_option maxRecDepth 20000
open Go Go.PR Go.Proofs Go.PR.S
namespace Go.PR.S
theorem zf1 : X.ft F.z1b = some Tryz.f39 := by kernel_rfl
theorem zz2 {u v : List Int} (h1 : ¬(↑u.length : Int) = (↑v.length : Int)) : Runs X F.z1b [.immI .i64 u,.immI .i64 v] [] (boolR false) :=
 RG zf1 [true] [((↑u.length : Int) != (↑v.length : Int)) = true] (PA (bne_iff_ne.2 h1) trivial) PN LN
def z51 (u v : List Int) (t5a : Nat) : LSt := ⟨mkE 26 0 [(0,.immI .i64 u),(1,.immI .i64 v),(5,iD (↑t5a : Int))],[]⟩
def zb6 : OutL := .ret ⟨mkE 26 0 [(4,.bool false)],[]⟩
def zb7 : OutL := .exit 0 ⟨mkE 26 0 [],[]⟩
section
variable {Q : Out -> Prop} {u v : List Int} (h2 : (↑u.length : Int) = (↑v.length : Int)) {t5a : Nat}
include h2
section
variable (h3 : (↑t5a : Int) < (↑u.length : Int))
include h3
theorem zz5 (h4 : ¬u.getD t5a 0 = v.getD t5a 0) (hq : Q (zb6).out) : wq F.z1b 0 Tryz.f39 0 (z51 u v t5a) Q :=
 RS [true,true] (zb6) [decide ((↑t5a : Int) < (↑u.length : Int)) = true,(0 : Int) <= (↑t5a : Int) /\ (↑t5a : Int) < (↑u.length : Int),(0 : Int) <= (↑t5a : Int) /\ (↑t5a : Int) < (↑v.length : Int),(u.getD t5a 0 != v.getD t5a 0) = true] (PA (decide_eq_true h3) (PA ⟨(by omega),h3⟩ (PA ⟨(by omega),(by omega)⟩ (PA (bne_iff_ne.2 h4) trivial)))) PN LN hq
theorem zz6 (h5 : u.getD t5a 0 = v.getD t5a 0) (h6 : (↑t5a : Int) + (1 : Int) <= (9223372036854775807 : Int)) (hq : wq F.z1b 0 Tryz.f39 0 (z51 u v (t5a + 1)) Q) : wq F.z1b 0 Tryz.f39 0 (z51 u v t5a) Q :=
 RS [true,false] (.normal (z51 u v (t5a + 1))) [decide ((↑t5a : Int) < (↑u.length : Int)) = true,(0 : Int) <= (↑t5a : Int) /\ (↑t5a : Int) < (↑u.length : Int),(0 : Int) <= (↑t5a : Int) /\ (↑t5a : Int) < (↑v.length : Int),(u.getD t5a 0 != v.getD t5a 0) = false,inR ((↑t5a : Int) + (1 : Int))] (PA (decide_eq_true h3) (PA ⟨(by omega),h3⟩ (PA ⟨(by omega),(by omega)⟩ (PA (bne_eq_false_iff_eq.2 h5) (PA ⟨(by omega),h6⟩ trivial))))) PN LN hq
end
theorem zz7 (h7 : ¬(↑t5a : Int) < (↑u.length : Int)) (hq : Q (zb7).out) : wq F.z1b 0 Tryz.f39 0 (z51 u v t5a) Q :=
 RS [false] (zb7) [decide ((↑t5a : Int) < (↑u.length : Int)) = false] (PA (decide_eq_false h7) trivial) PN LN hq
end
section
variable {u v : List Int} (h2 : (↑u.length : Int) = (↑v.length : Int))
include h2
theorem zz3 (l8 : wl F.z1b 0 Tryz.f39 0 (z51 u v 0) zb6) : Runs X F.z1b [.immI .i64 u,.immI .i64 v] [] (boolR false) :=
 RG zf1 [false] [((↑u.length : Int) != (↑v.length : Int)) = false] (PA (bne_eq_false_iff_eq.2 h2) trivial) PN (LC l8 LN)
theorem zz4 (l9 : wl F.z1b 0 Tryz.f39 0 (z51 u v 0) zb7) : Runs X F.z1b [.immI .i64 u,.immI .i64 v] [] (boolR true) :=
 RG zf1 [false] [((↑u.length : Int) != (↑v.length : Int)) = false] (PA (bne_eq_false_iff_eq.2 h2) trivial) PN (LC l9 LN)
end
theorem zlh : X.ft F.z1v = some Tryz.f43 := by kernel_rfl
section
variable {n : Int} {d w : List Int} {a r1 : Int} (c2 : Runs X F.zo [alD n d,.immI .i64 w,iD a] [] (intR r1))
include c2
theorem z112 (h3 : r1 < (0 : Int)) : Runs X F.z1v [alD n d,.immI .i64 w,iD a] [] ⟨.tup [.rsl 600000 0 0,.bool false],[],[⟨true,.ints .i64 []⟩]⟩ :=
 RG zlh [true] [decide (r1 < (0 : Int)) = true] (PA (decide_eq_true h3) trivial) (PC c2 PN) LN
theorem z113 (h4 : ¬r1 < (0 : Int)) {xs5 : List Int} (c6 : Runs X F.z2y [.immI .i64 w,iD r1] [] (rowR xs5)) (h7 : xs5.length + 1 <= 1099511627776) {xs8 : List Int} (c9 : Runs X F.z1i [alD n d,.immI .i64 (xs5 ++ [a])] [] (rowR xs8)) : Runs X F.z1v [alD n d,.immI .i64 w,iD a] [] ⟨.tup [.rsl 600000 0 xs8.length,.bool true],[],[⟨true,.ints .i64 xs8⟩]⟩ :=
 RG zlh [false,true,true,true] [decide (r1 < (0 : Int)) = false,0 + xs5.length = xs5.length /\ xs5.length + 1 <= 1099511627776,0 = 0 /\ xs5.length = xs5.length,0 + (xs5 ++ [a]).length <= (xs5 ++ [a]).length,0 = 0 /\ (xs5 ++ [a]).length = (xs5 ++ [a]).length] (PA (decide_eq_false h4) (PA ⟨(by first|omega|simp),h7⟩ (PA ⟨(by first|omega|simp),(by omega)⟩ (PO (PA ⟨(by omega),(by omega)⟩ trivial))))) (PC c2 (PC c6 (PC c9 PN))) LN
end
theorem zlf : X.ft F.z1j = some Tryz.f44 := by kernel_rfl
def z44 (l : List (List Int)) (w : List Int) (t5a : Nat) : LSt := ⟨mkE 19 0 [(0,.imm2 .i64 l),(1,.immI .i64 w),(5,iD (↑t5a : Int))],[]⟩
def zbp (t4az : Nat) : OutL := .ret ⟨mkE 19 0 [(4,iD (↑t4az : Int))],[]⟩
def zbq : OutL := .exit 0 ⟨mkE 19 0 [],[]⟩
section
variable {Q : Out -> Prop} {l : List (List Int)} {w : List Int} {t5a : Nat} (h1 : (↑t5a : Int) < (↑l.length : Int)) {b2 : Bool} (c3 : Runs X F.z1b [.immI .i64 (l.getD t5a []),.immI .i64 w] [] (boolR b2))
include h1 c3
theorem z110 (h4 : b2 = true) (hq : Q (zbp t5a).out) : wq F.z1j 0 Tryz.f44 0 (z44 l w t5a) Q :=
 RS [true,true] (zbp t5a) [decide ((↑t5a : Int) < (↑l.length : Int)) = true,(0 : Int) <= (↑t5a : Int) /\ (↑t5a : Int) < (↑l.length : Int),b2 = true] (PA (decide_eq_true h1) (PA ⟨(by omega),h1⟩ (PA h4 trivial))) (PC c3 PN) LN hq
theorem zlg (h5 : b2 = false) (h6 : (↑t5a : Int) + (1 : Int) <= (9223372036854775807 : Int)) (hq : wq F.z1j 0 Tryz.f44 0 (z44 l w (t5a + 1)) Q) : wq F.z1j 0 Tryz.f44 0 (z44 l w t5a) Q :=
 RS [true,false] (.normal (z44 l w (t5a + 1))) [decide ((↑t5a : Int) < (↑l.length : Int)) = true,(0 : Int) <= (↑t5a : Int) /\ (↑t5a : Int) < (↑l.length : Int),b2 = false,inR ((↑t5a : Int) + (1 : Int))] (PA (decide_eq_true h1) (PA ⟨(by omega),h1⟩ (PA h5 (PA ⟨(by omega),h6⟩ trivial)))) (PC c3 PN) LN hq
end
theorem z111 {Q : Out -> Prop} {l : List (List Int)} {w : List Int} {t5a : Nat} (h7 : ¬(↑t5a : Int) < (↑l.length : Int)) (hq : Q (zbq).out) : wq F.z1j 0 Tryz.f44 0 (z44 l w t5a) Q :=
 RS [false] (zbq) [decide ((↑t5a : Int) < (↑l.length : Int)) = false] (PA (decide_eq_false h7) trivial) PN LN hq
theorem z10y {l : List (List Int)} {w : List Int} {t4az : Nat} (l8 : wl F.z1j 0 Tryz.f44 0 (z44 l w 0) (zbp t4az)) : Runs X F.z1j [.imm2 .i64 l,.immI .i64 w] [] ⟨iD (↑t4az : Int),[],[]⟩ :=
 RG zlf [] [] trivial PN (LC l8 LN)
theorem z10z {l : List (List Int)} {w : List Int} (l9 : wl F.z1j 0 Tryz.f44 0 (z44 l w 0) zbq) : Runs X F.z1j [.imm2 .i64 l,.immI .i64 w] [] ⟨iD (-1 : Int),[],[]⟩ :=
 RG zlf [] [] trivial PN (LC l9 LN)
theorem zl9 : X.ft F.zp = some Tryz.f55 := by kernel_rfl
def z43 (n : Int) (d : List Int) (t9a : Nat) (r7a : List (List Int)) (r8a : List Int) : LSt := ⟨mkE 64 0 [(2,.ptr 1002 0),(7,.rsl 7 0 r7a.length),(8,.rsl 8 0 r8a.length),(9,iD (↑t9a : Int))],[(1002,⟨true,.var [iD n,.immI .i64 d]⟩),(7,⟨true,.ints2 .i64 r7a⟩),(8,⟨true,.ints .i64 r8a⟩)]⟩
def zbl (r7az : List (List Int)) (r8az : List Int) : OutL := .ret ⟨mkE 64 0 [(4,.rsl 4 0 0),(5,.rsl 5 0 0),(6,.bool false),(7,.rsl 7 0 r7az.length),(8,.rsl 8 0 r8az.length)],[(4,⟨true,.ints2 .i64 []⟩),(5,⟨true,.ints .i64 []⟩),(7,⟨true,.ints2 .i64 r7az⟩),(8,⟨true,.ints .i64 r8az⟩)]⟩
def zbm (r7az : List (List Int)) (r8az : List Int) : OutL := .exit 0 ⟨mkE 64 0 [(7,.rsl 7 0 r7az.length),(8,.rsl 8 0 r8az.length)],[(7,⟨true,.ints2 .i64 r7az⟩),(8,⟨true,.ints .i64 r8az⟩)]⟩
def z1y (n : Int) (d : List Int) (t9a t10b : Nat) (r7b : List (List Int)) (r8b : List Int) : LSt := ⟨mkE 64 0 [(2,.ptr 1002 0),(7,.rsl 7 0 r7b.length),(8,.rsl 8 0 r8b.length),(9,iD (↑t9a : Int)),(10,iD (↑t10b : Int))],[(1002,⟨true,.var [iD n,.immI .i64 d]⟩),(7,⟨true,.ints2 .i64 r7b⟩),(8,⟨true,.ints .i64 r8b⟩)]⟩
def zbn (n : Int) (d : List Int) (t9a : Nat) (r7bz : List (List Int)) (r8bz : List Int) : OutL := .ret ⟨mkE 64 0 [(2,.ptr 1002 0),(4,.rsl 4 0 0),(5,.rsl 5 0 0),(6,.bool false),(7,.rsl 7 0 r7bz.length),(8,.rsl 8 0 r8bz.length),(9,iD (↑t9a : Int))],[(1002,⟨true,.var [iD n,.immI .i64 d]⟩),(4,⟨true,.ints2 .i64 []⟩),(5,⟨true,.ints .i64 []⟩),(7,⟨true,.ints2 .i64 r7bz⟩),(8,⟨true,.ints .i64 r8bz⟩)]⟩
def zbo (n : Int) (d : List Int) (t9a : Nat) (r7bz : List (List Int)) (r8bz : List Int) : OutL := .exit 2 ⟨mkE 64 0 [(2,.ptr 1002 0),(7,.rsl 7 0 r7bz.length),(8,.rsl 8 0 r8bz.length),(9,iD (↑t9a : Int))],[(1002,⟨true,.var [iD n,.immI .i64 d]⟩),(7,⟨true,.ints2 .i64 r7bz⟩),(8,⟨true,.ints .i64 r8bz⟩)]⟩
section
variable {Q : Out -> Prop} {n : Int} {d : List Int} {t9a t10b : Nat} {r7b : List (List Int)} {r8b : List Int} (h4 : (↑t10b : Int) < n) (h5 : (↑t9a : Int) < (↑r7b.length : Int)) {xs6 : List Int} {b7 : Bool} (c8 : Runs X F.z1v [alD n d,.immI .i64 (r7b.getD (0 + t9a) []),iD (↑t10b : Int)] [] ⟨.tup [.rsl 600000 0 xs6.length,.bool b7],[],[⟨true,.ints .i64 xs6⟩]⟩)
include h4 h5 c8
section
variable (h9 : b7 = true) {r10 : Int} (c11 : Runs X F.z1j [.imm2 .i64 r7b,.immI .i64 xs6] [] (intR r10)) (h12 : r10 < (0 : Int)) (h13 : r7b.length + 1 <= 1099511627776) (h14 : (↑t9a : Int) < (↑r8b.length : Int)) (h15 : (-9223372036854775808 : Int) <= r8b.getD (0 + t9a) 0 + (1 : Int)) (h16 : r8b.getD (0 + t9a) 0 + (1 : Int) <= (9223372036854775807 : Int)) (h17 : r8b.length + 1 <= 1099511627776)
include h9 c11 h12 h13 h14 h15 h16 h17
theorem z10w (h18 : (↑(r7b ++ [xs6]).length : Int) > (1000 : Int)) (hq : Q (zbn n d t9a (r7b ++ [xs6]) (r8b ++ [r8b.getD (0 + t9a) 0 + (1 : Int)])).out) : wq F.zp 2 Tryz.f55 1 (z1y n d t9a t10b r7b r8b) Q :=
 RS [true,true,true,true,true,true,true,true,true,true,true,true,true,true,true,true,true] (zbn n d t9a (r7b ++ [xs6]) (r8b ++ [r8b.getD (0 + t9a) 0 + (1 : Int)])) [decide ((↑t10b : Int) < n) = true,(0 : Int) <= (↑t9a : Int) /\ (↑t9a : Int) < (↑r7b.length : Int),0 + t9a < r7b.length,b7 = true,b7 = true,b7 = true,0 + r7b.length <= r7b.length,0 = 0 /\ r7b.length = r7b.length,0 + xs6.length <= xs6.length,0 = 0 /\ xs6.length = xs6.length,b7 = true,b7 = true,decide (r10 < (0 : Int)) = true,0 + xs6.length <= xs6.length,0 = 0 /\ xs6.length = xs6.length,1 <= 1,0 = 0 /\ 1 = 1,0 + r7b.length = r7b.length /\ r7b.length + 1 <= 1099511627776,0 = 0 /\ r7b.length = r7b.length,(0 : Int) <= (↑t9a : Int) /\ (↑t9a : Int) < (↑r8b.length : Int),0 + t9a < r8b.length,inR (r8b.getD (0 + t9a) 0 + (1 : Int)),1 <= 1,0 = 0 /\ 1 = 1,0 + r8b.length = r8b.length /\ r8b.length + 1 <= 1099511627776,0 = 0 /\ r8b.length = r8b.length,decide ((↑(r7b ++ [xs6]).length : Int) > (1000 : Int)) = true] (PA (decide_eq_true h4) (PA ⟨(by omega),h5⟩ (PO (PA h9 (PA h9 (PA h9 (PO (PA ⟨(by first|omega|simp),(by omega)⟩ (PO (PA ⟨(by first|omega|simp),(by omega)⟩ (PA h9 (PA h9 (PA (decide_eq_true h12) (PO (PA ⟨(by first|omega|simp),(by omega)⟩ (PO (PA ⟨(by omega),(by first|omega|simp)⟩ (PA ⟨(by first|omega|simp),h13⟩ (PA ⟨(by first|omega|simp),(by omega)⟩ (PA ⟨(by omega),h14⟩ (PO (PA ⟨h15,h16⟩ (PO (PA ⟨(by omega),(by first|omega|simp)⟩ (PA ⟨(by first|omega|simp),h17⟩ (PA ⟨(by first|omega|simp),(by omega)⟩ (PA (decide_eq_true h18) trivial))))))))))))))))))))))))))) (PC c8 (PC c11 PN)) LN hq
theorem zlc (h19 : ¬(↑(r7b ++ [xs6]).length : Int) > (1000 : Int)) (h20 : (↑t10b : Int) + (1 : Int) <= (9223372036854775807 : Int)) (hq : wq F.zp 2 Tryz.f55 1 (z1y n d t9a (t10b + 1) (r7b ++ [xs6]) (r8b ++ [r8b.getD (0 + t9a) 0 + (1 : Int)])) Q) : wq F.zp 2 Tryz.f55 1 (z1y n d t9a t10b r7b r8b) Q :=
 RS [true,true,true,true,true,true,true,true,true,true,true,true,true,true,true,true,false] (.normal (z1y n d t9a (t10b + 1) (r7b ++ [xs6]) (r8b ++ [r8b.getD (0 + t9a) 0 + (1 : Int)]))) [decide ((↑t10b : Int) < n) = true,(0 : Int) <= (↑t9a : Int) /\ (↑t9a : Int) < (↑r7b.length : Int),0 + t9a < r7b.length,b7 = true,b7 = true,b7 = true,0 + r7b.length <= r7b.length,0 = 0 /\ r7b.length = r7b.length,0 + xs6.length <= xs6.length,0 = 0 /\ xs6.length = xs6.length,b7 = true,b7 = true,decide (r10 < (0 : Int)) = true,0 + xs6.length <= xs6.length,0 = 0 /\ xs6.length = xs6.length,1 <= 1,0 = 0 /\ 1 = 1,0 + r7b.length = r7b.length /\ r7b.length + 1 <= 1099511627776,0 = 0 /\ r7b.length = r7b.length,(0 : Int) <= (↑t9a : Int) /\ (↑t9a : Int) < (↑r8b.length : Int),0 + t9a < r8b.length,inR (r8b.getD (0 + t9a) 0 + (1 : Int)),1 <= 1,0 = 0 /\ 1 = 1,0 + r8b.length = r8b.length /\ r8b.length + 1 <= 1099511627776,0 = 0 /\ r8b.length = r8b.length,decide ((↑(r7b ++ [xs6]).length : Int) > (1000 : Int)) = false,inR ((↑t10b : Int) + (1 : Int))] (PA (decide_eq_true h4) (PA ⟨(by omega),h5⟩ (PO (PA h9 (PA h9 (PA h9 (PO (PA ⟨(by first|omega|simp),(by omega)⟩ (PO (PA ⟨(by first|omega|simp),(by omega)⟩ (PA h9 (PA h9 (PA (decide_eq_true h12) (PO (PA ⟨(by first|omega|simp),(by omega)⟩ (PO (PA ⟨(by omega),(by first|omega|simp)⟩ (PA ⟨(by first|omega|simp),h13⟩ (PA ⟨(by first|omega|simp),(by omega)⟩ (PA ⟨(by omega),h14⟩ (PO (PA ⟨h15,h16⟩ (PO (PA ⟨(by omega),(by first|omega|simp)⟩ (PA ⟨(by first|omega|simp),h17⟩ (PA ⟨(by first|omega|simp),(by omega)⟩ (PA (decide_eq_false h19) (PA ⟨(by omega),h20⟩ trivial)))))))))))))))))))))))))))) (PC c8 (PC c11 PN)) LN hq
end
theorem zld (h9 : b7 = true) {r10 : Int} (c11 : Runs X F.z1j [.imm2 .i64 r7b,.immI .i64 xs6] [] (intR r10)) (h21 : ¬r10 < (0 : Int)) (h22 : (↑t10b : Int) + (1 : Int) <= (9223372036854775807 : Int)) (hq : wq F.zp 2 Tryz.f55 1 (z1y n d t9a (t10b + 1) r7b r8b) Q) : wq F.zp 2 Tryz.f55 1 (z1y n d t9a t10b r7b r8b) Q :=
 RS [true,true,true,true,true,true,true,true,false] (.normal (z1y n d t9a (t10b + 1) r7b r8b)) [decide ((↑t10b : Int) < n) = true,(0 : Int) <= (↑t9a : Int) /\ (↑t9a : Int) < (↑r7b.length : Int),0 + t9a < r7b.length,b7 = true,b7 = true,b7 = true,0 + r7b.length <= r7b.length,0 = 0 /\ r7b.length = r7b.length,0 + xs6.length <= xs6.length,0 = 0 /\ xs6.length = xs6.length,b7 = true,b7 = true,decide (r10 < (0 : Int)) = false,inR ((↑t10b : Int) + (1 : Int))] (PA (decide_eq_true h4) (PA ⟨(by omega),h5⟩ (PO (PA h9 (PA h9 (PA h9 (PO (PA ⟨(by first|omega|simp),(by omega)⟩ (PO (PA ⟨(by first|omega|simp),(by omega)⟩ (PA h9 (PA h9 (PA (decide_eq_false h21) (PA ⟨(by omega),h22⟩ trivial)))))))))))))) (PC c8 (PC c11 PN)) LN hq
theorem zle (h23 : b7 = false) (h24 : (↑t10b : Int) + (1 : Int) <= (9223372036854775807 : Int)) (hq : wq F.zp 2 Tryz.f55 1 (z1y n d t9a (t10b + 1) r7b r8b) Q) : wq F.zp 2 Tryz.f55 1 (z1y n d t9a t10b r7b r8b) Q :=
 RS [true,false,false,false,false,false,false] (.normal (z1y n d t9a (t10b + 1) r7b r8b)) [decide ((↑t10b : Int) < n) = true,(0 : Int) <= (↑t9a : Int) /\ (↑t9a : Int) < (↑r7b.length : Int),0 + t9a < r7b.length,b7 = false,b7 = false,b7 = false,b7 = false,b7 = false,false = false,inR ((↑t10b : Int) + (1 : Int))] (PA (decide_eq_true h4) (PA ⟨(by omega),h5⟩ (PO (PA h23 (PA h23 (PA h23 (PA h23 (PA h23 (PA rfl (PA ⟨(by omega),h24⟩ trivial)))))))))) (PC c8 PN) LN hq
end
section
variable {Q : Out -> Prop} {n : Int} {d : List Int} {t9a : Nat}
theorem z10x {t10b : Nat} {r7b : List (List Int)} {r8b : List Int} (h25 : ¬(↑t10b : Int) < n) (hq : Q (zbo n d t9a r7b r8b).out) : wq F.zp 2 Tryz.f55 1 (z1y n d t9a t10b r7b r8b) Q :=
 RS [false] (zbo n d t9a r7b r8b) [decide ((↑t10b : Int) < n) = false] (PA (decide_eq_false h25) trivial) PN LN hq
section
variable {r7a : List (List Int)} {r8a : List Int} (h3 : (↑t9a : Int) < (↑r7a.length : Int)) {r7bz : List (List Int)} {r8bz : List Int}
include h3
theorem z10v (l26 : wl F.zp 2 Tryz.f55 1 (z1y n d t9a 0 r7a r8a) (zbn n d t9a r7bz r8bz)) (hq : Q (zbl r7bz r8bz).out) : wq F.zp 0 Tryz.f55 0 (z43 n d t9a r7a r8a) Q :=
 RS [true] (zbl r7bz r8bz) [decide ((↑t9a : Int) < (↑r7a.length : Int)) = true] (PA (decide_eq_true h3) trivial) PN (LC l26 LN) hq
theorem zla (l27 : wl F.zp 2 Tryz.f55 1 (z1y n d t9a 0 r7a r8a) (zbo n d t9a r7bz r8bz)) (h28 : (↑t9a : Int) + (1 : Int) <= (9223372036854775807 : Int)) (hq : wq F.zp 0 Tryz.f55 0 (z43 n d (t9a + 1) r7bz r8bz) Q) : wq F.zp 0 Tryz.f55 0 (z43 n d t9a r7a r8a) Q :=
 RS [true] (.normal (z43 n d (t9a + 1) r7bz r8bz)) [decide ((↑t9a : Int) < (↑r7a.length : Int)) = true,inR ((↑t9a : Int) + (1 : Int))] (PA (decide_eq_true h3) (PA ⟨(by omega),h28⟩ trivial)) PN (LC l27 LN) hq
end
theorem zlb {r7a : List (List Int)} {r8a : List Int} (h29 : ¬(↑t9a : Int) < (↑r7a.length : Int)) (hq : Q (zbm r7a r8a).out) : wq F.zp 0 Tryz.f55 0 (z43 n d t9a r7a r8a) Q :=
 RS [false] (zbm r7a r8a) [decide ((↑t9a : Int) < (↑r7a.length : Int)) = false] (PA (decide_eq_false h29) trivial) PN LN hq
end
section
variable {n : Int} {d w xs1 : List Int} (c2 : Runs X F.z1i [alD n d,.immI .i64 w] [] (rowR xs1)) {r7az : List (List Int)} {r8az : List Int}
include c2
theorem z10t (l30 : wl F.zp 0 Tryz.f55 0 (z43 n d 0 [xs1] [(0 : Int)]) (zbl r7az r8az)) : Runs X F.zp [alD n d,.immI .i64 w] [] ⟨.tup [.rsl 600000 0 0,.rsl 600001 0 0,.bool false],[],[⟨true,.ints2 .i64 []⟩,⟨true,.ints .i64 []⟩]⟩ :=
 RG zl9 [true] [0 + xs1.length <= xs1.length,0 = 0 /\ xs1.length = xs1.length] (PO (PA ⟨(by first|omega|simp),(by omega)⟩ trivial)) (PC c2 PN) (LC l30 LN)
theorem z10u (l31 : wl F.zp 0 Tryz.f55 0 (z43 n d 0 [xs1] [(0 : Int)]) (zbm r7az r8az)) : Runs X F.zp [alD n d,.immI .i64 w] [] ⟨.tup [.rsl 600000 0 r7az.length,.rsl 600001 0 r8az.length,.bool true],[],[⟨true,.ints2 .i64 r7az⟩,⟨true,.ints .i64 r8az⟩]⟩ :=
 RG zl9 [true] [0 + xs1.length <= xs1.length,0 = 0 /\ xs1.length = xs1.length] (PO (PA ⟨(by first|omega|simp),(by omega)⟩ trivial)) (PC c2 PN) (LC l31 LN)
end
end Go.PR.S
