/- Path lemmas (written by Vc.lean). -/
import Derived.Test.YtnhklcbddcoadaaGreatDoorFwMk
set_option linter.unusedVariables false
set_option linter.unusedSimpArgs false
set_option linter.unusedSectionVars false
set_option maxRecDepth 20000
open Go Go.PR Go.Proofs Go.PR.S
namespace Go.PR.S
theorem zwr : X.ft F.z4w = some Tryz.f109 := by kernel_rfl
theorem zws {a : Int} {w : List Int} (h1 : 0 + (a :: w).length <= 1099511627776) : Runs X F.z4w [.immI .i64 (a :: w)] [] ⟨.rsl 600000 0 (a :: w).length,[],[⟨true,.ints .i64 (a :: w)⟩]⟩ :=
 RG zwr [false,true,true] [0 < (a :: w).length,false = false,0 = 0 /\ 0 + (a :: w).length <= 1099511627776,0 = 0 /\ 0 = 0] (PO (PO (PA ⟨(by omega),h1⟩ (PA ⟨(by omega),(by first|omega|(simp;done)|(simp at *;omega))⟩ trivial)))) PN LN
theorem zkl : X.ft F.zm = some Tryz.f32 := by kernel_rfl
def z4x (ws : List (List Int)) (t3a t11a : Nat) : LSt := ⟨mkE 36 0 [(0,.imm2 .i64 ws),(3,iD (↑t3a : Int)),(9,.imm2 .i64 ws),(10,iD (↑ws.length : Int)),(11,iD (↑t11a : Int))],[]⟩
def z77 (ws : List (List Int)) (t3az : Nat) : OutL := .exit 0 ⟨mkE 36 0 [(0,.imm2 .i64 ws),(3,iD (↑t3az : Int))],[]⟩
section
variable {Q : Out -> Prop} {ws : List (List Int)} {t3a t11a : Nat}
theorem zwv (h1 : (↑t11a : Int) < (↑ws.length : Int)) (h2 : (↑t3a : Int) + (↑(ws.getD t11a []).length : Int) <= (9223372036854775807 : Int)) (h3 : (↑t11a : Int) + (1 : Int) <= (9223372036854775807 : Int)) (hq : wq F.zm 0 Tryz.f32 0 (z4x ws (t3a + (ws.getD t11a []).length) (t11a + 1)) Q) : wq F.zm 0 Tryz.f32 0 (z4x ws t3a t11a) Q :=
 RS [true,false] (.normal (z4x ws (t3a + (ws.getD t11a []).length) (t11a + 1))) [decide ((↑t11a : Int) < (↑ws.length : Int)) = true,(0 : Int) <= (↑t11a : Int) /\ (↑t11a : Int) < (↑ws.length : Int),inR ((↑t3a : Int) + (↑(ws.getD t11a []).length : Int)),decide ((↑t3a : Int) + (↑(ws.getD t11a []).length : Int) < (0 : Int)) = false,inR ((↑t11a : Int) + (1 : Int))] (PA (decide_eq_true h1) (PA ⟨(by omega),h1⟩ (PA ⟨(by omega),h2⟩ (PA (decide_eq_false (by omega)) (PA ⟨(by omega),h3⟩ trivial))))) PN LN hq
theorem zww (h4 : ¬(↑t11a : Int) < (↑ws.length : Int)) (hq : Q (z77 ws t3a).out) : wq F.zm 0 Tryz.f32 0 (z4x ws t3a t11a) Q :=
 RS [false] (z77 ws t3a) [decide ((↑t11a : Int) < (↑ws.length : Int)) = false] (PA (decide_eq_false h4) trivial) PN LN hq
end
def z3s (ws : List (List Int)) (n6b t27b : Nat) (r6b : List Int) : LSt := ⟨mkE 36 0 [(6,.rsl 6 0 n6b),(25,.imm2 .i64 ws),(26,iD (↑ws.length : Int)),(27,iD (↑t27b : Int))],[(6,⟨true,.ints .i64 r6b⟩)]⟩
def zaq (n6bz : Nat) (r6bz : List Int) : OutL := .exit 2 ⟨mkE 36 0 [(6,.rsl 6 0 n6bz)],[(6,⟨true,.ints .i64 r6bz⟩)]⟩
section
variable {Q : Out -> Prop} {ws : List (List Int)} {n6b t27b : Nat} {r6b : List Int}
section
variable (h9 : (↑t27b : Int) < (↑ws.length : Int))
include h9
theorem zwx (h10 : 0 + n6b = r6b.length) (h11 : n6b + (ws.getD t27b []).length <= 1099511627776) (h12 : (↑t27b : Int) + (1 : Int) <= (9223372036854775807 : Int)) (hq : wq F.zm 2 Tryz.f32 1 (z3s ws (List.take n6b (List.drop 0 r6b) ++ ws.getD t27b []).length (t27b + 1) (List.take n6b (List.drop 0 r6b) ++ ws.getD t27b [])) Q) : wq F.zm 2 Tryz.f32 1 (z3s ws n6b t27b r6b) Q :=
 RS [true,true,false] (.normal (z3s ws (List.take n6b (List.drop 0 r6b) ++ ws.getD t27b []).length (t27b + 1) (List.take n6b (List.drop 0 r6b) ++ ws.getD t27b []))) [decide ((↑t27b : Int) < (↑ws.length : Int)) = true,(0 : Int) <= (↑t27b : Int) /\ (↑t27b : Int) < (↑ws.length : Int),0 + n6b = r6b.length /\ n6b + (ws.getD t27b []).length <= 1099511627776,0 + n6b <= r6b.length,inR ((↑t27b : Int) + (1 : Int))] (PA (decide_eq_true h9) (PA ⟨(by omega),h9⟩ (PA ⟨h10,h11⟩ (PO (PA ⟨(by omega),h12⟩ trivial))))) PN LN hq
theorem zwy (h13 : ¬0 + n6b = r6b.length) (h14 : 0 + n6b + (ws.getD t27b []).length <= r6b.length) (h15 : (↑t27b : Int) + (1 : Int) <= (9223372036854775807 : Int)) (hq : wq F.zm 2 Tryz.f32 1 (z3s ws (n6b + (ws.getD t27b []).length) (t27b + 1) (List.take (0 + n6b) r6b ++ ws.getD t27b [] ++ List.drop (0 + n6b + (ws.getD t27b []).length) r6b)) Q) : wq F.zm 2 Tryz.f32 1 (z3s ws n6b t27b r6b) Q :=
 RS [true,false] (.normal (z3s ws (n6b + (ws.getD t27b []).length) (t27b + 1) (List.take (0 + n6b) r6b ++ ws.getD t27b [] ++ List.drop (0 + n6b + (ws.getD t27b []).length) r6b))) [decide ((↑t27b : Int) < (↑ws.length : Int)) = true,(0 : Int) <= (↑t27b : Int) /\ (↑t27b : Int) < (↑ws.length : Int),0 + n6b ≠ r6b.length /\ 0 + n6b + (ws.getD t27b []).length <= r6b.length,inR ((↑t27b : Int) + (1 : Int))] (PA (decide_eq_true h9) (PA ⟨(by omega),h9⟩ (PA ⟨h13,h14⟩ (PA ⟨(by omega),h15⟩ trivial)))) PN LN hq
end
theorem zwz (h16 : ¬(↑t27b : Int) < (↑ws.length : Int)) (hq : Q (zaq n6b r6b).out) : wq F.zm 2 Tryz.f32 1 (z3s ws n6b t27b r6b) Q :=
 RS [false] (zaq n6b r6b) [decide ((↑t27b : Int) < (↑ws.length : Int)) = false] (PA (decide_eq_false h16) trivial) PN LN hq
end
theorem zwt {ws : List (List Int)} {t3az : Nat} (l5 : wl F.zm 0 Tryz.f32 0 (z4x ws 0 0) (z77 ws t3az)) (h6 : (↑t3az : Int) - ((0 : Int) - (0 : Int)) <= (9223372036854775807 : Int)) (h7 : (↑t3az : Int) - ((0 : Int) - (0 : Int)) > (0 : Int)) (h8 : (↑t3az : Int) - ((0 : Int) - (0 : Int)) <= (↑1099511627776 : Int)) {n6bz : Nat} {r6bz : List Int} (l17 : wl F.zm 2 Tryz.f32 1 (z3s ws 0 0 (List.replicate ((↑t3az : Int) - ((0 : Int) - (0 : Int))).toNat (0 : Int))) (zaq n6bz r6bz)) : Runs X F.zm [.imm2 .i64 ws] [] ⟨.rsl 600000 0 n6bz,[],[⟨true,.ints .i64 r6bz⟩]⟩ :=
 RG zkl [] [] trivial (PC (Runs.path (by kernel_rfl) (by kernel_rfl) (show fnV X F.zkp Tryz.f72 [.nil NK.unk,iD (↑t3az : Int)] [] ⟨[false,true,true],[],[]⟩ = .ok (⟨.rsl 600000 0 0,[],[⟨true,.ints .i64 (List.replicate ((↑t3az : Int) - ((0 : Int) - (0 : Int))).toNat (0 : Int))⟩]⟩) ⟨[],[],[]⟩ ⟨[decide ((↑t3az : Int) < (0 : Int)) = false,inR ((0 : Int) - (0 : Int)),inR ((↑t3az : Int) - ((0 : Int) - (0 : Int))),decide ((↑t3az : Int) - ((0 : Int) - (0 : Int)) > (0 : Int)) = true,(0 : Int) <= (0 : Int),0 = 0 /\ 0 = 0,(0 : Int) < (↑t3az : Int) - ((0 : Int) - (0 : Int)) /\ (↑t3az : Int) - ((0 : Int) - (0 : Int)) <= (↑1099511627776 : Int),(0 : Int) <= (0 : Int),0 <= 0 /\ 0 <= ((↑t3az : Int) - ((0 : Int) - (0 : Int))).toNat],[],[]⟩ by kernel_rfl) (AllP.c (decide_eq_false (by omega)) (AllP.c ⟨(by omega),(by omega)⟩ (AllP.c ⟨(by omega),h6⟩ (AllP.c (decide_eq_true h7) (AllP.c (by omega) (AllP.c ⟨(by omega),(by first|omega|(simp;done)|(simp at *;omega))⟩ (AllP.c ⟨h7,h8⟩ (AllP.c (by omega) (AllP.c ⟨(by omega),(by first|omega|(simp;done)|(simp at *;omega))⟩ trivial))))))))) trivial trivial) PN) (LC l5 (LC l17 LN))
def z78 (ws : List (List Int)) (t27b : Nat) (r6b : List Int) : LSt := ⟨mkE 36 0 [(6,.rsl 6 0 r6b.length),(25,.imm2 .i64 ws),(26,iD (↑ws.length : Int)),(27,iD (↑t27b : Int))],[(6,⟨true,.ints .i64 r6b⟩)]⟩
def zar (r6bz : List Int) : OutL := .exit 2 ⟨mkE 36 0 [(6,.rsl 6 0 r6bz.length)],[(6,⟨true,.ints .i64 r6bz⟩)]⟩
section
variable {Q : Out -> Prop} {ws : List (List Int)} {t27b : Nat} {r6b : List Int}
theorem zx0 (h19 : (↑t27b : Int) < (↑ws.length : Int)) (h20 : r6b.length + (ws.getD t27b []).length <= 1099511627776) (h21 : (↑t27b : Int) + (1 : Int) <= (9223372036854775807 : Int)) (hq : wq F.zm 2 Tryz.f32 1 (z78 ws (t27b + 1) (r6b ++ ws.getD t27b [])) Q) : wq F.zm 2 Tryz.f32 1 (z78 ws t27b r6b) Q :=
 RS [true,true,true] (.normal (z78 ws (t27b + 1) (r6b ++ ws.getD t27b []))) [decide ((↑t27b : Int) < (↑ws.length : Int)) = true,(0 : Int) <= (↑t27b : Int) /\ (↑t27b : Int) < (↑ws.length : Int),0 + r6b.length = r6b.length /\ r6b.length + (ws.getD t27b []).length <= 1099511627776,0 = 0 /\ r6b.length = r6b.length,inR ((↑t27b : Int) + (1 : Int))] (PA (decide_eq_true h19) (PA ⟨(by omega),h19⟩ (PA ⟨(by first|omega|(simp;done)|(simp at *;omega)),h20⟩ (PA ⟨(by first|omega|(simp;done)|(simp at *;omega)),(by omega)⟩ (PA ⟨(by omega),h21⟩ trivial))))) PN LN hq
theorem zx1 (h22 : ¬(↑t27b : Int) < (↑ws.length : Int)) (hq : Q (zar r6b).out) : wq F.zm 2 Tryz.f32 1 (z78 ws t27b r6b) Q :=
 RS [false] (zar r6b) [decide ((↑t27b : Int) < (↑ws.length : Int)) = false] (PA (decide_eq_false h22) trivial) PN LN hq
end
theorem zwu {ws : List (List Int)} {t3az : Nat} (l5 : wl F.zm 0 Tryz.f32 0 (z4x ws 0 0) (z77 ws t3az)) (h6 : (↑t3az : Int) - ((0 : Int) - (0 : Int)) <= (9223372036854775807 : Int)) (h18 : ¬(↑t3az : Int) - ((0 : Int) - (0 : Int)) > (0 : Int)) {r6bz : List Int} (l23 : wl F.zm 2 Tryz.f32 1 (z78 ws 0 []) (zar r6bz)) : Runs X F.zm [.imm2 .i64 ws] [] (rowR r6bz) :=
 RG zkl [] [] trivial (PC (Runs.path (by kernel_rfl) (by kernel_rfl) (show fnV X F.zkp Tryz.f72 [.nil NK.unk,iD (↑t3az : Int)] [] ⟨[false,false],[],[]⟩ = .ok (⟨.rsl 600000 0 0,[],[⟨true,.ints .i64 []⟩]⟩) ⟨[],[],[]⟩ ⟨[decide ((↑t3az : Int) < (0 : Int)) = false,inR ((0 : Int) - (0 : Int)),inR ((↑t3az : Int) - ((0 : Int) - (0 : Int))),decide ((↑t3az : Int) - ((0 : Int) - (0 : Int)) > (0 : Int)) = false],[],[]⟩ by kernel_rfl) (AllP.c (decide_eq_false (by omega)) (AllP.c ⟨(by omega),(by omega)⟩ (AllP.c ⟨(by omega),h6⟩ (AllP.c (decide_eq_false h18) trivial)))) trivial trivial) PN) (LC l5 (LC l23 LN))
theorem zx2 : X.ft F.zas = some Tryz.f82 := by kernel_rfl
theorem zkm {ws : List (List Int)} {n : Int} {d : List Int} {r1 : Int} (c2 : Runs X F.z2o [.imm2 .i64 ws,.fn F.z20 [.pim [iD n,.immI .i64 d]]] [] (intR r1)) : Runs X F.zas [.imm2 .i64 ws,.fn F.z20 [.pim [iD n,.immI .i64 d]]] [] ⟨.bool (decide (r1 >= (0 : Int))),[],[]⟩ :=
 RG zx2 [] [] trivial (PC c2 PN) LN
theorem zx3 : X.ft F.zeq = some Tryz.f60 := by kernel_rfl
theorem zkn {w : List Int} {a b r1 : Int} (c2 : Runs X F.zt [.immI .i64 w,.fn F.z29 [.pim [iD a],.pim [iD b]]] [] (intR r1)) : Runs X F.zeq [.immI .i64 w,.fn F.z29 [.pim [iD a],.pim [iD b]]] [] ⟨.bool (decide (r1 >= (0 : Int))),[],[]⟩ :=
 RG zx3 [] [] trivial (PC c2 PN) LN
theorem zx4 : X.ft F.zat = some Tryz.f117 := by kernel_rfl
theorem zko {w : List Int} {a r1 : Int} (c2 : Runs X F.z2e [.immI .i64 w,iD a] [] (intR r1)) : Runs X F.zat [.immI .i64 w,iD a] [] ⟨.bool (decide (r1 >= (0 : Int))),[],[]⟩ :=
 RG zx4 [] [] trivial (PC c2 PN) LN
theorem zx5 : X.ft F.zau = some Tryz.f71 := by kernel_rfl
theorem zx6 {xs : List Int} {i j : Int} (h1 : (0 : Int) <= i) (h2 : (↑i.toNat : Int) <= j) (h3 : j <= (↑xs.length : Int)) (h5 : ¬i = j) : Runs X F.zau [.rsl 500000 0 xs.length,iD i,iD j] [⟨true,.ints .i64 xs⟩] ⟨.rsl 600000 0 (i.toNat - 0 + (List.take (xs.length - j.toNat) (List.drop (0 + j.toNat) xs)).length),[none],[⟨true,.ints .i64 (List.take (0 + (i.toNat - 0 + (List.take (xs.length - j.toNat) (List.drop (0 + j.toNat) xs)).length)) (List.take (0 + (i.toNat - 0)) xs ++ List.take (xs.length - j.toNat) (List.drop (0 + j.toNat) xs) ++ List.drop (0 + (i.toNat - 0) + (List.take (xs.length - j.toNat) (List.drop (0 + j.toNat) xs)).length) xs))⟩]⟩ :=
 RG zx5 [false,true,true,false,false,false,false,true] [(0 : Int) <= i,(↑i.toNat : Int) <= j /\ j <= (↑xs.length : Int) /\ (↑xs.length : Int) <= (↑xs.length : Int),(i == j) = false,(0 : Int) <= i,0 <= i.toNat /\ i.toNat <= xs.length,(0 : Int) <= j,j.toNat <= xs.length /\ xs.length <= xs.length,0 + j.toNat + (xs.length - j.toNat) <= xs.length,0 + j.toNat + (xs.length - j.toNat) <= xs.length,0 + (i.toNat - 0) ≠ xs.length /\ 0 + (i.toNat - 0) + (List.take (xs.length - j.toNat) (List.drop (0 + j.toNat) xs)).length <= xs.length,(0 : Int) <= (↑(i.toNat - 0 + (List.take (xs.length - j.toNat) (List.drop (0 + j.toNat) xs)).length) : Int),(0 : Int) <= (↑xs.length : Int),i.toNat - 0 + (List.take (xs.length - j.toNat) (List.drop (0 + j.toNat) xs)).length <= xs.length /\ 0 + xs.length <= (List.take (0 + (i.toNat - 0)) xs ++ List.take (xs.length - j.toNat) (List.drop (0 + j.toNat) xs) ++ List.drop (0 + (i.toNat - 0) + (List.take (xs.length - j.toNat) (List.drop (0 + j.toNat) xs)).length) xs).length,xs.length - (i.toNat - 0 + (List.take (xs.length - j.toNat) (List.drop (0 + j.toNat) xs)).length) ≠ 0,0 + (i.toNat - 0 + (List.take (xs.length - j.toNat) (List.drop (0 + j.toNat) xs)).length) + (xs.length - (i.toNat - 0 + (List.take (xs.length - j.toNat) (List.drop (0 + j.toNat) xs)).length)) <= (List.take (0 + (i.toNat - 0)) xs ++ List.take (xs.length - j.toNat) (List.drop (0 + j.toNat) xs) ++ List.drop (0 + (i.toNat - 0) + (List.take (xs.length - j.toNat) (List.drop (0 + j.toNat) xs)).length) xs).length,0 + (i.toNat - 0 + (List.take (xs.length - j.toNat) (List.drop (0 + j.toNat) xs)).length) + (xs.length - (i.toNat - 0 + (List.take (xs.length - j.toNat) (List.drop (0 + j.toNat) xs)).length)) = (List.take (0 + (i.toNat - 0)) xs ++ List.take (xs.length - j.toNat) (List.drop (0 + j.toNat) xs) ++ List.drop (0 + (i.toNat - 0) + (List.take (xs.length - j.toNat) (List.drop (0 + j.toNat) xs)).length) xs).length] (PA h1 (PA ⟨h2,⟨h3,(by omega)⟩⟩ (PA (beq_false_of_ne h5) (PA h1 (PA ⟨(by omega),(by omega)⟩ (PO (PA ⟨(by omega),(by omega)⟩ (PO (PO (PA ⟨(by first|omega|(simp;done)|(simp at *;omega)),(by first|omega|(simp;done)|(simp at *;omega))⟩ (PO (PO (PA ⟨(by first|omega|(simp;done)|(simp at *;omega)),(by first|omega|(simp;done)|(simp at *;omega))⟩ (PO (PO (PO trivial)))))))))))))))) PN LN
theorem zer : X.ft F.z2d = some Tryz.f59 := by kernel_rfl
theorem zx7 {a b : List Int} (h1 : ¬(↑a.length : Int) = (↑b.length : Int)) : Runs X F.z2d [.immI .i64 a,.immI .i64 b] [] (boolR false) :=
 RG zer [true] [((↑a.length : Int) != (↑b.length : Int)) = true] (PA (bne_iff_ne.2 h1) trivial) PN LN
def z4y (a b : List Int) (t13a : Nat) : LSt := ⟨mkE 26 0 [(0,.immI .i64 a),(1,.immI .i64 b),(12,iD (↑a.length : Int)),(13,iD (↑t13a : Int))],[]⟩
def zav : OutL := .ret ⟨mkE 26 0 [(4,.bool false)],[]⟩
def zaw : OutL := .exit 0 ⟨mkE 26 0 [],[]⟩
section
variable {Q : Out -> Prop} {a b : List Int} (h2 : (↑a.length : Int) = (↑b.length : Int)) {t13a : Nat}
include h2
section
variable (h3 : (↑t13a : Int) < (↑a.length : Int))
include h3
theorem zxa (h4 : ¬a.getD t13a 0 = b.getD t13a 0) (hq : Q (zav).out) : wq F.z2d 0 Tryz.f59 0 (z4y a b t13a) Q :=
 RS [true,true] (zav) [decide ((↑t13a : Int) < (↑a.length : Int)) = true,(0 : Int) <= (↑t13a : Int) /\ (↑t13a : Int) < (↑a.length : Int),(0 : Int) <= (↑t13a : Int) /\ (↑t13a : Int) < (↑b.length : Int),(a.getD t13a 0 != b.getD t13a 0) = true] (PA (decide_eq_true h3) (PA ⟨(by omega),h3⟩ (PA ⟨(by omega),(by omega)⟩ (PA (bne_iff_ne.2 h4) trivial)))) PN LN hq
theorem zxb (h5 : a.getD t13a 0 = b.getD t13a 0) (h6 : (↑t13a : Int) + (1 : Int) <= (9223372036854775807 : Int)) (hq : wq F.z2d 0 Tryz.f59 0 (z4y a b (t13a + 1)) Q) : wq F.z2d 0 Tryz.f59 0 (z4y a b t13a) Q :=
 RS [true,false] (.normal (z4y a b (t13a + 1))) [decide ((↑t13a : Int) < (↑a.length : Int)) = true,(0 : Int) <= (↑t13a : Int) /\ (↑t13a : Int) < (↑a.length : Int),(0 : Int) <= (↑t13a : Int) /\ (↑t13a : Int) < (↑b.length : Int),(a.getD t13a 0 != b.getD t13a 0) = false,inR ((↑t13a : Int) + (1 : Int))] (PA (decide_eq_true h3) (PA ⟨(by omega),h3⟩ (PA ⟨(by omega),(by omega)⟩ (PA (bne_eq_false_iff_eq.2 h5) (PA ⟨(by omega),h6⟩ trivial))))) PN LN hq
end
theorem zxc (h7 : ¬(↑t13a : Int) < (↑a.length : Int)) (hq : Q (zaw).out) : wq F.z2d 0 Tryz.f59 0 (z4y a b t13a) Q :=
 RS [false] (zaw) [decide ((↑t13a : Int) < (↑a.length : Int)) = false] (PA (decide_eq_false h7) trivial) PN LN hq
end
section
variable {a b : List Int} (h2 : (↑a.length : Int) = (↑b.length : Int))
include h2
theorem zx8 (l8 : wl F.z2d 0 Tryz.f59 0 (z4y a b 0) zav) : Runs X F.z2d [.immI .i64 a,.immI .i64 b] [] (boolR false) :=
 RG zer [false] [((↑a.length : Int) != (↑b.length : Int)) = false] (PA (bne_eq_false_iff_eq.2 h2) trivial) PN (LC l8 LN)
theorem zx9 (l9 : wl F.z2d 0 Tryz.f59 0 (z4y a b 0) zaw) : Runs X F.z2d [.immI .i64 a,.immI .i64 b] [] (boolR true) :=
 RG zer [false] [((↑a.length : Int) != (↑b.length : Int)) = false] (PA (bne_eq_false_iff_eq.2 h2) trivial) PN (LC l9 LN)
end
theorem zkq : X.ft F.z2o = some Tryz.f115 := by kernel_rfl
def z3t (ws : List (List Int)) (n : Int) (d : List Int) (t8a : Nat) : LSt := ⟨mkE 19 0 [(0,.imm2 .i64 ws),(1,.fn F.z20 [.pim [iD n,.immI .i64 d]]),(7,iD (↑ws.length : Int)),(8,iD (↑t8a : Int))],[]⟩
def zes (t4az : Nat) : OutL := .ret ⟨mkE 19 0 [(4,iD (↑t4az : Int))],[]⟩
def zet : OutL := .exit 0 ⟨mkE 19 0 [],[]⟩
section
variable {Q : Out -> Prop} {ws : List (List Int)} {n : Int} {d : List Int} {t8a : Nat} (h1 : (↑t8a : Int) < (↑ws.length : Int)) {b2 : Bool} (c3 : Runs X F.z20 [.immI .i64 (ws.getD t8a []),.pim [iD n,.immI .i64 d]] [] (boolR b2))
include h1 c3
theorem zxf (h4 : b2 = true) (hq : Q (zes t8a).out) : wq F.z2o 0 Tryz.f115 0 (z3t ws n d t8a) Q :=
 RS [true,true] (zes t8a) [decide ((↑t8a : Int) < (↑ws.length : Int)) = true,(0 : Int) <= (↑t8a : Int) /\ (↑t8a : Int) < (↑ws.length : Int),b2 = true] (PA (decide_eq_true h1) (PA ⟨(by omega),h1⟩ (PA h4 trivial))) (PC c3 PN) LN hq
theorem zkr (h5 : b2 = false) (h6 : (↑t8a : Int) + (1 : Int) <= (9223372036854775807 : Int)) (hq : wq F.z2o 0 Tryz.f115 0 (z3t ws n d (t8a + 1)) Q) : wq F.z2o 0 Tryz.f115 0 (z3t ws n d t8a) Q :=
 RS [true,false] (.normal (z3t ws n d (t8a + 1))) [decide ((↑t8a : Int) < (↑ws.length : Int)) = true,(0 : Int) <= (↑t8a : Int) /\ (↑t8a : Int) < (↑ws.length : Int),b2 = false,inR ((↑t8a : Int) + (1 : Int))] (PA (decide_eq_true h1) (PA ⟨(by omega),h1⟩ (PA h5 (PA ⟨(by omega),h6⟩ trivial)))) (PC c3 PN) LN hq
end
theorem zxg {Q : Out -> Prop} {ws : List (List Int)} {n : Int} {d : List Int} {t8a : Nat} (h7 : ¬(↑t8a : Int) < (↑ws.length : Int)) (hq : Q (zet).out) : wq F.z2o 0 Tryz.f115 0 (z3t ws n d t8a) Q :=
 RS [false] (zet) [decide ((↑t8a : Int) < (↑ws.length : Int)) = false] (PA (decide_eq_false h7) trivial) PN LN hq
section
variable {ws : List (List Int)} {n : Int} {d : List Int}
theorem zxd {t4az : Nat} (l8 : wl F.z2o 0 Tryz.f115 0 (z3t ws n d 0) (zes t4az)) : Runs X F.z2o [.imm2 .i64 ws,.fn F.z20 [.pim [iD n,.immI .i64 d]]] [] ⟨iD (↑t4az : Int),[],[]⟩ :=
 RG zkq [] [] trivial PN (LC l8 LN)
theorem zxe (l9 : wl F.z2o 0 Tryz.f115 0 (z3t ws n d 0) zet) : Runs X F.z2o [.imm2 .i64 ws,.fn F.z20 [.pim [iD n,.immI .i64 d]]] [] ⟨iD (-1 : Int),[],[]⟩ :=
 RG zkq [] [] trivial PN (LC l9 LN)
end
theorem zku : X.ft F.zt = some Tryz.f100 := by kernel_rfl
def z3v (w : List Int) (a b : Int) (t8a : Nat) : LSt := ⟨mkE 19 0 [(0,.immI .i64 w),(1,.fn F.z29 [.pim [iD a],.pim [iD b]]),(7,iD (↑w.length : Int)),(8,iD (↑t8a : Int))],[]⟩
def zeu (t4az : Nat) : OutL := .ret ⟨mkE 19 0 [(4,iD (↑t4az : Int))],[]⟩
def zev : OutL := .exit 0 ⟨mkE 19 0 [],[]⟩
section
variable {Q : Out -> Prop} {w : List Int} {a b : Int} {t8a : Nat} (h1 : (↑t8a : Int) < (↑w.length : Int)) {b2 : Bool} (c3 : Runs X F.z29 [iD (w.getD t8a 0),.pim [iD a],.pim [iD b]] [] (boolR b2))
include h1 c3
theorem zxn (h4 : b2 = true) (hq : Q (zeu t8a).out) : wq F.zt 0 Tryz.f100 0 (z3v w a b t8a) Q :=
 RS [true,true] (zeu t8a) [decide ((↑t8a : Int) < (↑w.length : Int)) = true,(0 : Int) <= (↑t8a : Int) /\ (↑t8a : Int) < (↑w.length : Int),b2 = true] (PA (decide_eq_true h1) (PA ⟨(by omega),h1⟩ (PA h4 trivial))) (PC c3 PN) LN hq
theorem zkv (h5 : b2 = false) (h6 : (↑t8a : Int) + (1 : Int) <= (9223372036854775807 : Int)) (hq : wq F.zt 0 Tryz.f100 0 (z3v w a b (t8a + 1)) Q) : wq F.zt 0 Tryz.f100 0 (z3v w a b t8a) Q :=
 RS [true,false] (.normal (z3v w a b (t8a + 1))) [decide ((↑t8a : Int) < (↑w.length : Int)) = true,(0 : Int) <= (↑t8a : Int) /\ (↑t8a : Int) < (↑w.length : Int),b2 = false,inR ((↑t8a : Int) + (1 : Int))] (PA (decide_eq_true h1) (PA ⟨(by omega),h1⟩ (PA h5 (PA ⟨(by omega),h6⟩ trivial)))) (PC c3 PN) LN hq
end
theorem zxo {Q : Out -> Prop} {w : List Int} {a b : Int} {t8a : Nat} (h7 : ¬(↑t8a : Int) < (↑w.length : Int)) (hq : Q (zev).out) : wq F.zt 0 Tryz.f100 0 (z3v w a b t8a) Q :=
 RS [false] (zev) [decide ((↑t8a : Int) < (↑w.length : Int)) = false] (PA (decide_eq_false h7) trivial) PN LN hq
theorem zxl {w : List Int} {a b : Int} {t4az : Nat} (l8 : wl F.zt 0 Tryz.f100 0 (z3v w a b 0) (zeu t4az)) : Runs X F.zt [.immI .i64 w,.fn F.z29 [.pim [iD a],.pim [iD b]]] [] ⟨iD (↑t4az : Int),[],[]⟩ :=
 RG zku [] [] trivial PN (LC l8 LN)
theorem zxm {w : List Int} {a b : Int} (l9 : wl F.zt 0 Tryz.f100 0 (z3v w a b 0) zev) : Runs X F.zt [.immI .i64 w,.fn F.z29 [.pim [iD a],.pim [iD b]]] [] ⟨iD (-1 : Int),[],[]⟩ :=
 RG zku [] [] trivial PN (LC l9 LN)
theorem zky : X.ft F.z2e = some Tryz.f124 := by kernel_rfl
def z4z (w : List Int) (a : Int) (t8a : Nat) : LSt := ⟨mkE 19 0 [(0,.immI .i64 w),(1,iD a),(7,iD (↑w.length : Int)),(8,iD (↑t8a : Int))],[]⟩
def zaz (t4az : Nat) : OutL := .ret ⟨mkE 19 0 [(4,iD (↑t4az : Int))],[]⟩
def zb0 : OutL := .exit 0 ⟨mkE 19 0 [],[]⟩
section
variable {Q : Out -> Prop} {w : List Int} {a : Int} {t8a : Nat}
section
variable (h1 : (↑t8a : Int) < (↑w.length : Int))
include h1
theorem zxv (h2 : a = w.getD t8a 0) (hq : Q (zaz t8a).out) : wq F.z2e 0 Tryz.f124 0 (z4z w a t8a) Q :=
 RS [true,true] (zaz t8a) [decide ((↑t8a : Int) < (↑w.length : Int)) = true,(0 : Int) <= (↑t8a : Int) /\ (↑t8a : Int) < (↑w.length : Int),(a == w.getD t8a 0) = true] (PA (decide_eq_true h1) (PA ⟨(by omega),h1⟩ (PA (beq_iff_eq.2 h2) trivial))) PN LN hq
theorem zxw (h3 : ¬a = w.getD t8a 0) (h4 : (↑t8a : Int) + (1 : Int) <= (9223372036854775807 : Int)) (hq : wq F.z2e 0 Tryz.f124 0 (z4z w a (t8a + 1)) Q) : wq F.z2e 0 Tryz.f124 0 (z4z w a t8a) Q :=
 RS [true,false] (.normal (z4z w a (t8a + 1))) [decide ((↑t8a : Int) < (↑w.length : Int)) = true,(0 : Int) <= (↑t8a : Int) /\ (↑t8a : Int) < (↑w.length : Int),(a == w.getD t8a 0) = false,inR ((↑t8a : Int) + (1 : Int))] (PA (decide_eq_true h1) (PA ⟨(by omega),h1⟩ (PA (beq_false_of_ne h3) (PA ⟨(by omega),h4⟩ trivial)))) PN LN hq
end
theorem zxx (h5 : ¬(↑t8a : Int) < (↑w.length : Int)) (hq : Q (zb0).out) : wq F.z2e 0 Tryz.f124 0 (z4z w a t8a) Q :=
 RS [false] (zb0) [decide ((↑t8a : Int) < (↑w.length : Int)) = false] (PA (decide_eq_false h5) trivial) PN LN hq
end
theorem zxt {w : List Int} {a : Int} {t4az : Nat} (l6 : wl F.z2e 0 Tryz.f124 0 (z4z w a 0) (zaz t4az)) : Runs X F.z2e [.immI .i64 w,iD a] [] ⟨iD (↑t4az : Int),[],[]⟩ :=
 RG zky [] [] trivial PN (LC l6 LN)
theorem zxu {w : List Int} {a : Int} (l7 : wl F.z2e 0 Tryz.f124 0 (z4z w a 0) zb0) : Runs X F.z2e [.immI .i64 w,iD a] [] ⟨iD (-1 : Int),[],[]⟩ :=
 RG zky [] [] trivial PN (LC l7 LN)
theorem zxy : X.ft F.z3x = some Tryz.f110 := by kernel_rfl
def z79 (xs : List Int) (t2a : Nat) (t3a : Int) (r500000a : List Int) : LSt := ⟨mkE 28 0 [(0,.rsl 500000 0 xs.length),(2,iD (↑t2a : Int)),(3,iD t3a)],[(500000,⟨true,.ints .i64 r500000a⟩)]⟩
def zb1 (r500000az : List Int) : OutL := .exit 0 ⟨mkE 28 0 [],[(500000,⟨true,.ints .i64 r500000az⟩)]⟩
section
variable {Q : Out -> Prop} {xs : List Int} (h1 : (↑xs.length : Int) - (1 : Int) <= (9223372036854775807 : Int)) {t2a : Nat} {t3a : Int} {r500000a : List Int} (e2 : r500000a.length = xs.length)
include h1 e2
theorem zy0 (h3 : (↑t2a : Int) < t3a) (h4 : t3a < (↑xs.length : Int)) (hq : wq F.z3x 0 Tryz.f110 0 (z79 xs (t2a + 1) (t3a - (1 : Int)) ((r500000a.set (0 + t2a) (r500000a.getD (0 + t3a.toNat) 0)).set (0 + t3a.toNat) (r500000a.getD (0 + t2a) 0))) Q) : wq F.z3x 0 Tryz.f110 0 (z79 xs t2a t3a r500000a) Q :=
 RS [true] (.normal (z79 xs (t2a + 1) (t3a - (1 : Int)) ((r500000a.set (0 + t2a) (r500000a.getD (0 + t3a.toNat) 0)).set (0 + t3a.toNat) (r500000a.getD (0 + t2a) 0)))) [decide ((↑t2a : Int) < t3a) = true,(0 : Int) <= t3a /\ t3a < (↑xs.length : Int),0 + t3a.toNat < r500000a.length,(0 : Int) <= (↑t2a : Int) /\ (↑t2a : Int) < (↑xs.length : Int),0 + t2a < r500000a.length,(0 : Int) <= (↑t2a : Int) /\ (↑t2a : Int) < (↑xs.length : Int),0 + t2a < r500000a.length,(0 : Int) <= t3a /\ t3a < (↑xs.length : Int),0 + t3a.toNat < (r500000a.set (0 + t2a) (r500000a.getD (0 + t3a.toNat) 0)).length,inR ((↑t2a : Int) + (1 : Int)),inR (t3a - (1 : Int))] (PA (decide_eq_true h3) (PA ⟨(by omega),h4⟩ (PO (PA ⟨(by omega),(by omega)⟩ (PO (PA ⟨(by omega),(by omega)⟩ (PO (PA ⟨(by omega),h4⟩ (PO (PA ⟨(by omega),(by omega)⟩ (PA ⟨(by omega),(by omega)⟩ trivial))))))))))) PN LN hq
theorem zkz (h5 : ¬(↑t2a : Int) < t3a) (hq : Q (zb1 r500000a).out) : wq F.z3x 0 Tryz.f110 0 (z79 xs t2a t3a r500000a) Q :=
 RS [false] (zb1 r500000a) [decide ((↑t2a : Int) < t3a) = false] (PA (decide_eq_false h5) trivial) PN LN hq
end
theorem zxz {xs : List Int} (h1 : (↑xs.length : Int) - (1 : Int) <= (9223372036854775807 : Int)) {r500000az : List Int} (l6 : wl F.z3x 0 Tryz.f110 0 (z79 xs 0 ((↑xs.length : Int) - (1 : Int)) xs) (zb1 r500000az)) : Runs X F.z3x [.rsl 500000 0 xs.length] [⟨true,.ints .i64 xs⟩] ⟨.tup [],[some ⟨true,.ints .i64 r500000az⟩],[]⟩ :=
 RG zxy [] [inR ((↑xs.length : Int) - (1 : Int))] (PA ⟨(by omega),h1⟩ trivial) PN (LC l6 LN)
end Go.PR.S
