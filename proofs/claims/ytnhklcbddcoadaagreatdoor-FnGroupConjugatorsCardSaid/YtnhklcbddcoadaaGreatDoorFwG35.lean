/- Path lemmas (written by Vc.lean). -/
import Derived.Test.YtnhklcbddcoadaaGreatDoorFwMk
set_option linter.unusedVariables false
set_option linter.unusedSimpArgs false
set_option linter.unusedSectionVars false
set_option maxRecDepth 20000
open Go Go.PR Go.Proofs Go.PR.S
namespace Go.PR.S
theorem zsr : X.ft F.z2a = some Tryz.f107 := by kernel_rfl
def z6x (w : List Int) (t11a : Nat) (r3a : List Int) : LSt := ⟨mkE 24 0 [(3,.rsl 3 0 w.length),(9,.immI .i64 w),(10,iD (↑w.length : Int)),(11,iD (↑t11a : Int))],[(3,⟨true,.ints .u8 r3a⟩)]⟩
def z9t (w r3az : List Int) : OutL := .exit 0 ⟨mkE 24 0 [(3,.rsl 3 0 w.length)],[(3,⟨true,.ints .u8 r3az⟩)]⟩
section
variable {Q : Out -> Prop} {w : List Int} (h1 : (↑w.length : Int) <= (↑1099511627776 : Int)) {t11a : Nat} {r3a : List Int} (e2 : r3a.length = w.length)
include h1 e2
theorem zst (h3 : (↑t11a : Int) < (↑w.length : Int)) (hq : wq F.z2a 0 Tryz.f107 0 (z6x w (t11a + 1) (r3a.set (0 + t11a) (IntKind.u8.wrap (w.getD t11a 0)))) Q) : wq F.z2a 0 Tryz.f107 0 (z6x w t11a r3a) Q :=
 RS [true] (.normal (z6x w (t11a + 1) (r3a.set (0 + t11a) (IntKind.u8.wrap (w.getD t11a 0))))) [decide ((↑t11a : Int) < (↑w.length : Int)) = true,(0 : Int) <= (↑t11a : Int) /\ (↑t11a : Int) < (↑w.length : Int),(0 : Int) <= (↑t11a : Int) /\ (↑t11a : Int) < (↑w.length : Int),0 + t11a < r3a.length,inR ((↑t11a : Int) + (1 : Int))] (PA (decide_eq_true h3) (PA ⟨(by omega),h3⟩ (PA ⟨(by omega),h3⟩ (PO (PA ⟨(by omega),(by first|omega|simp)⟩ trivial))))) PN LN hq
theorem zsu (h4 : ¬(↑t11a : Int) < (↑w.length : Int)) (hq : Q (z9t w r3a).out) : wq F.z2a 0 Tryz.f107 0 (z6x w t11a r3a) Q :=
 RS [false] (z9t w r3a) [decide ((↑t11a : Int) < (↑w.length : Int)) = false] (PA (decide_eq_false h4) trivial) PN LN hq
end
theorem zss {w : List Int} (h1 : (↑w.length : Int) <= (↑1099511627776 : Int)) {r3az : List Int} (l5 : wl F.z2a 0 Tryz.f107 0 (z6x w 0 (List.replicate w.length (0 : Int))) (z9t w r3az)) (h6 : 0 + w.length <= r3az.length) : Runs X F.z2a [.immI .i64 w] [] ⟨D.str (bytesOf (List.take w.length (List.drop 0 r3az))),[],[]⟩ :=
 RG zsr [false] [(0 : Int) <= (↑w.length : Int) /\ (↑w.length : Int) <= (↑w.length : Int) /\ (↑w.length : Int) <= (↑1099511627776 : Int),0 + w.length <= r3az.length] (PA ⟨(by omega),⟨(by omega),h1⟩⟩ (PA h6 trivial)) PN (LC l5 LN)
theorem zsl : X.ft F.z5i = some Tryz.f108 := by kernel_rfl
theorem zsm {t w : List Int} {a : Int} {xs1 : List Int} (c2 : Runs X F.z4l [.immI .i64 w,iD a] [] (rowR xs1)) (h3 : xs1.length + 1 <= 1099511627776) {xs4 : List Int} (c5 : Runs X F.z1n [.immI .i64 t,.immI .i64 (xs1 ++ [a])] [] (rowR xs4)) : Runs X F.z5i [.immI .i64 t,.immI .i64 w,iD a] [] (rowR xs4) :=
 RG zsl [true,true,true,true] [1 <= 1,0 = 0 /\ 1 = 1,0 + xs1.length = xs1.length /\ xs1.length + 1 <= 1099511627776,0 = 0 /\ xs1.length = xs1.length,0 + (xs1 ++ [a]).length <= (xs1 ++ [a]).length,0 = 0 /\ (xs1 ++ [a]).length = (xs1 ++ [a]).length] (PO (PA ⟨(by omega),(by first|omega|simp)⟩ (PA ⟨(by first|omega|simp),h3⟩ (PA ⟨(by first|omega|simp),(by omega)⟩ (PO (PA ⟨(by omega),(by omega)⟩ trivial)))))) (PC c2 (PC c5 PN)) LN
theorem zi1 : X.ft F.z7 = some Tryz.f69 := by kernel_rfl
def z3l (t : List Int) (t7a : Nat) (r5a : List Rcd) (m1017a : List MEnt) : LSt := ⟨mkE 79 0 [(0,.immI .i64 t),(5,D.rcs 5 2 r5a.length),(6,D.mpr 1017),(7,iD (↑t7a : Int))],[(5,⟨true,Cont.recs [FK.ints .i64,FK.ints .i64] r5a⟩),(1017,⟨true,Cont.mp MK.str MV.bool m1017a⟩)]⟩
def z9j (r5az : List Rcd) : OutL := .ret ⟨mkE 79 0 [(4,D.rcs 5 2 r5az.length),(5,D.rcs 5 2 r5az.length)],[(5,⟨true,Cont.recs [FK.ints .i64,FK.ints .i64] r5az⟩)]⟩
def z9k (r5az : List Rcd) : OutL := .exit 0 ⟨mkE 79 0 [(5,D.rcs 5 2 r5az.length)],[(5,⟨true,Cont.recs [FK.ints .i64,FK.ints .i64] r5az⟩)]⟩
def z2k (t : List Int) (t7a : Nat) (xs8 : List Int) (t39b : Nat) (r5b : List Rcd) (m1017b : List MEnt) : LSt := ⟨mkE 79 0 [(0,.immI .i64 t),(5,D.rcs 5 2 r5b.length),(6,D.mpr 1017),(7,iD (↑t7a : Int)),(37,.rsl 1037 0 xs8.length),(38,iD (↑xs8.length : Int)),(39,iD (↑t39b : Int))],[(5,⟨true,Cont.recs [FK.ints .i64,FK.ints .i64] r5b⟩),(1017,⟨true,Cont.mp MK.str MV.bool m1017b⟩),(1037,⟨true,.ints .i64 xs8⟩)]⟩
def z9l (t : List Int) (t7a : Nat) (r5bz : List Rcd) (m1017bz : List MEnt) : OutL := .ret ⟨mkE 79 0 [(0,.immI .i64 t),(4,D.rcs 5 2 r5bz.length),(5,D.rcs 5 2 r5bz.length),(6,D.mpr 1017),(7,iD (↑t7a : Int))],[(5,⟨true,Cont.recs [FK.ints .i64,FK.ints .i64] r5bz⟩),(1017,⟨true,Cont.mp MK.str MV.bool m1017bz⟩)]⟩
def z9m (t : List Int) (t7a : Nat) (r5bz : List Rcd) (m1017bz : List MEnt) : OutL := .exit 2 ⟨mkE 79 0 [(0,.immI .i64 t),(5,D.rcs 5 2 r5bz.length),(6,D.mpr 1017),(7,iD (↑t7a : Int))],[(5,⟨true,Cont.recs [FK.ints .i64,FK.ints .i64] r5bz⟩),(1017,⟨true,Cont.mp MK.str MV.bool m1017bz⟩)]⟩
section
variable {Q : Out -> Prop} {t : List Int} {t7a : Nat} {xs8 : List Int} {t39b : Nat} {r5b : List Rcd} {m1017b : List MEnt} (h10 : (↑t39b : Int) < (↑xs8.length : Int)) (h11 : (↑t7a : Int) < (↑r5b.length : Int)) {xs12 : List Int} (c13 : Runs X F.z5i [.immI .i64 t,.immI .i64 ((rcdAt r5b t7a).ls.headD []),iD (xs8.getD (0 + t39b) 0)] [] (rowR xs12)) {xs14 : List Int} (c15 : Runs X F.z2a [.immI .i64 xs12] [] ⟨D.str (bytesOf xs14),[],[]⟩)
include h10 h11 c13 c15
section
variable (h16 : (mget MK.str m1017b (encS (bytesOf xs14),(0 : Int))).getD (0 : Int) = 0) {xs17 : List Int} (c18 : Runs X F.z4w [.immI .i64 ((rcdAt r5b t7a).ls.tail.headD [])] [] (rowR xs17)) (h19 : xs17.length + 1 <= 1099511627776) (h20 : r5b.length + 1 <= 1099511627776)
include h16 c18 h19 h20
theorem zrr (h21 : (↑(r5b ++ [(Rcd.mk ([]) ([xs12,xs17 ++ [xs8.getD (0 + t39b) 0]]) ([]))]).length : Int) > (1000 : Int)) (hq : Q (z9l t t7a (r5b ++ [(Rcd.mk ([]) ([xs12,xs17 ++ [xs8.getD (0 + t39b) 0]]) ([]))]) (mset MK.str m1017b (encS (bytesOf xs14),(0 : Int)) (b2i true))).out) : wq F.z7 2 Tryz.f69 1 (z2k t t7a xs8 t39b r5b m1017b) Q :=
 RS [true,true,true,true,true,true,true,true,true] (z9l t t7a (r5b ++ [(Rcd.mk ([]) ([xs12,xs17 ++ [xs8.getD (0 + t39b) 0]]) ([]))]) (mset MK.str m1017b (encS (bytesOf xs14),(0 : Int)) (b2i true))) [decide ((↑t39b : Int) < (↑xs8.length : Int)) = true,(0 : Int) <= (↑t39b : Int) /\ (↑t39b : Int) < (↑xs8.length : Int),0 + t39b < xs8.length,(0 : Int) <= (↑t7a : Int) /\ (↑t7a : Int) < (↑r5b.length : Int),t7a < r5b.length,0 + xs12.length <= xs12.length,0 = 0 /\ xs12.length = xs12.length,(!(mget MK.str m1017b (encS (bytesOf xs14),(0 : Int))).getD (0 : Int) != (0 : Int)) = true,(0 : Int) <= (↑t7a : Int) /\ (↑t7a : Int) < (↑r5b.length : Int),t7a < r5b.length,1 <= 1,0 = 0 /\ 1 = 1,0 + xs17.length = xs17.length /\ xs17.length + 1 <= 1099511627776,0 = 0 /\ xs17.length = xs17.length,0 + xs12.length <= xs12.length,0 = 0 /\ xs12.length = xs12.length,0 + (xs17 ++ [xs8.getD (0 + t39b) 0]).length <= (xs17 ++ [xs8.getD (0 + t39b) 0]).length,0 = 0 /\ (xs17 ++ [xs8.getD (0 + t39b) 0]).length = (xs17 ++ [xs8.getD (0 + t39b) 0]).length,1 = 1,r5b.length = r5b.length /\ 0 < 1 /\ r5b.length + 1 <= 1099511627776,decide ((↑(r5b ++ [(Rcd.mk ([]) ([xs12,xs17 ++ [xs8.getD (0 + t39b) 0]]) ([]))]).length : Int) > (1000 : Int)) = true] (PA (decide_eq_true h10) (PA ⟨(by omega),h10⟩ (PO (PA ⟨(by omega),h11⟩ (PO (PO (PA ⟨(by first|omega|simp),(by omega)⟩ (PA (not_t (bne_eq_false_iff_eq.2 h16)) (PA ⟨(by omega),h11⟩ (PO (PO (PA ⟨(by omega),(by first|omega|simp)⟩ (PA ⟨(by first|omega|simp),h19⟩ (PA ⟨(by first|omega|simp),(by omega)⟩ (PO (PA ⟨(by first|omega|simp),(by omega)⟩ (PO (PA ⟨(by omega),(by omega)⟩ (PO (PA ⟨(by omega),⟨(by first|omega|simp),h20⟩⟩ (PA (decide_eq_true h21) trivial))))))))))))))))))))) (PC c13 (PC c15 (PC c18 PN))) LN hq
theorem zi4 (h22 : ¬(↑(r5b ++ [(Rcd.mk ([]) ([xs12,xs17 ++ [xs8.getD (0 + t39b) 0]]) ([]))]).length : Int) > (1000 : Int)) (h23 : (↑t39b : Int) + (1 : Int) <= (9223372036854775807 : Int)) (hq : wq F.z7 2 Tryz.f69 1 (z2k t t7a xs8 (t39b + 1) (r5b ++ [(Rcd.mk ([]) ([xs12,xs17 ++ [xs8.getD (0 + t39b) 0]]) ([]))]) (mset MK.str m1017b (encS (bytesOf xs14),(0 : Int)) (b2i true))) Q) : wq F.z7 2 Tryz.f69 1 (z2k t t7a xs8 t39b r5b m1017b) Q :=
 RS [true,true,true,true,true,true,true,true,false] (.normal (z2k t t7a xs8 (t39b + 1) (r5b ++ [(Rcd.mk ([]) ([xs12,xs17 ++ [xs8.getD (0 + t39b) 0]]) ([]))]) (mset MK.str m1017b (encS (bytesOf xs14),(0 : Int)) (b2i true)))) [decide ((↑t39b : Int) < (↑xs8.length : Int)) = true,(0 : Int) <= (↑t39b : Int) /\ (↑t39b : Int) < (↑xs8.length : Int),0 + t39b < xs8.length,(0 : Int) <= (↑t7a : Int) /\ (↑t7a : Int) < (↑r5b.length : Int),t7a < r5b.length,0 + xs12.length <= xs12.length,0 = 0 /\ xs12.length = xs12.length,(!(mget MK.str m1017b (encS (bytesOf xs14),(0 : Int))).getD (0 : Int) != (0 : Int)) = true,(0 : Int) <= (↑t7a : Int) /\ (↑t7a : Int) < (↑r5b.length : Int),t7a < r5b.length,1 <= 1,0 = 0 /\ 1 = 1,0 + xs17.length = xs17.length /\ xs17.length + 1 <= 1099511627776,0 = 0 /\ xs17.length = xs17.length,0 + xs12.length <= xs12.length,0 = 0 /\ xs12.length = xs12.length,0 + (xs17 ++ [xs8.getD (0 + t39b) 0]).length <= (xs17 ++ [xs8.getD (0 + t39b) 0]).length,0 = 0 /\ (xs17 ++ [xs8.getD (0 + t39b) 0]).length = (xs17 ++ [xs8.getD (0 + t39b) 0]).length,1 = 1,r5b.length = r5b.length /\ 0 < 1 /\ r5b.length + 1 <= 1099511627776,decide ((↑(r5b ++ [(Rcd.mk ([]) ([xs12,xs17 ++ [xs8.getD (0 + t39b) 0]]) ([]))]).length : Int) > (1000 : Int)) = false,inR ((↑t39b : Int) + (1 : Int))] (PA (decide_eq_true h10) (PA ⟨(by omega),h10⟩ (PO (PA ⟨(by omega),h11⟩ (PO (PO (PA ⟨(by first|omega|simp),(by omega)⟩ (PA (not_t (bne_eq_false_iff_eq.2 h16)) (PA ⟨(by omega),h11⟩ (PO (PO (PA ⟨(by omega),(by first|omega|simp)⟩ (PA ⟨(by first|omega|simp),h19⟩ (PA ⟨(by first|omega|simp),(by omega)⟩ (PO (PA ⟨(by first|omega|simp),(by omega)⟩ (PO (PA ⟨(by omega),(by omega)⟩ (PO (PA ⟨(by omega),⟨(by first|omega|simp),h20⟩⟩ (PA (decide_eq_false h22) (PA ⟨(by omega),h23⟩ trivial)))))))))))))))))))))) (PC c13 (PC c15 (PC c18 PN))) LN hq
end
theorem zi5 (h24 : ¬(mget MK.str m1017b (encS (bytesOf xs14),(0 : Int))).getD (0 : Int) = 0) (h26 : ¬(↑r5b.length : Int) > (1000 : Int)) (h27 : (↑t39b : Int) + (1 : Int) <= (9223372036854775807 : Int)) (hq : wq F.z7 2 Tryz.f69 1 (z2k t t7a xs8 (t39b + 1) r5b m1017b) Q) : wq F.z7 2 Tryz.f69 1 (z2k t t7a xs8 t39b r5b m1017b) Q :=
 RS [true,true,false,false] (.normal (z2k t t7a xs8 (t39b + 1) r5b m1017b)) [decide ((↑t39b : Int) < (↑xs8.length : Int)) = true,(0 : Int) <= (↑t39b : Int) /\ (↑t39b : Int) < (↑xs8.length : Int),0 + t39b < xs8.length,(0 : Int) <= (↑t7a : Int) /\ (↑t7a : Int) < (↑r5b.length : Int),t7a < r5b.length,0 + xs12.length <= xs12.length,0 = 0 /\ xs12.length = xs12.length,(!(mget MK.str m1017b (encS (bytesOf xs14),(0 : Int))).getD (0 : Int) != (0 : Int)) = false,decide ((↑r5b.length : Int) > (1000 : Int)) = false,inR ((↑t39b : Int) + (1 : Int))] (PA (decide_eq_true h10) (PA ⟨(by omega),h10⟩ (PO (PA ⟨(by omega),h11⟩ (PO (PO (PA ⟨(by first|omega|simp),(by omega)⟩ (PA (not_f (bne_iff_ne.2 h24)) (PA (decide_eq_false h26) (PA ⟨(by omega),h27⟩ trivial)))))))))) (PC c13 (PC c15 PN)) LN hq
end
section
variable {Q : Out -> Prop} {t : List Int} {t7a : Nat}
theorem zrs {xs8 : List Int} {t39b : Nat} {r5b : List Rcd} {m1017b : List MEnt} (h28 : ¬(↑t39b : Int) < (↑xs8.length : Int)) (hq : Q (z9m t t7a r5b m1017b).out) : wq F.z7 2 Tryz.f69 1 (z2k t t7a xs8 t39b r5b m1017b) Q :=
 RS [false] (z9m t t7a r5b m1017b) [decide ((↑t39b : Int) < (↑xs8.length : Int)) = false] (PA (decide_eq_false h28) trivial) PN LN hq
section
variable {r5a : List Rcd} {m1017a : List MEnt} (h5 : (↑t7a : Int) < (↑r5a.length : Int)) {r6 : Int} (c7 : Runs X F.z1a [.immI .i64 t,.immI .i64 ((rcdAt r5a t7a).ls.headD [])] [] (intR r6)) {xs8 : List Int} (c9 : Runs X F.z19 [iD r6] [] (rowR xs8)) {r5bz : List Rcd} {m1017bz : List MEnt}
include h5 c7 c9
theorem zrq (l29 : wl F.z7 2 Tryz.f69 1 (z2k t t7a xs8 0 r5a m1017a) (z9l t t7a r5bz m1017bz)) (hq : Q (z9j r5bz).out) : wq F.z7 0 Tryz.f69 0 (z3l t t7a r5a m1017a) Q :=
 RS [true] (z9j r5bz) [decide ((↑t7a : Int) < (↑r5a.length : Int)) = true,(0 : Int) <= (↑t7a : Int) /\ (↑t7a : Int) < (↑r5a.length : Int),t7a < r5a.length] (PA (decide_eq_true h5) (PA ⟨(by omega),h5⟩ (PO trivial))) (PC c7 (PC c9 PN)) (LC l29 LN) hq
theorem zi2 (l30 : wl F.z7 2 Tryz.f69 1 (z2k t t7a xs8 0 r5a m1017a) (z9m t t7a r5bz m1017bz)) (h31 : (↑t7a : Int) + (1 : Int) <= (9223372036854775807 : Int)) (hq : wq F.z7 0 Tryz.f69 0 (z3l t (t7a + 1) r5bz m1017bz) Q) : wq F.z7 0 Tryz.f69 0 (z3l t t7a r5a m1017a) Q :=
 RS [true] (.normal (z3l t (t7a + 1) r5bz m1017bz)) [decide ((↑t7a : Int) < (↑r5a.length : Int)) = true,(0 : Int) <= (↑t7a : Int) /\ (↑t7a : Int) < (↑r5a.length : Int),t7a < r5a.length,inR ((↑t7a : Int) + (1 : Int))] (PA (decide_eq_true h5) (PA ⟨(by omega),h5⟩ (PO (PA ⟨(by omega),h31⟩ trivial)))) (PC c7 (PC c9 PN)) (LC l30 LN) hq
end
theorem zi3 {r5a : List Rcd} {m1017a : List MEnt} (h32 : ¬(↑t7a : Int) < (↑r5a.length : Int)) (hq : Q (z9k r5a).out) : wq F.z7 0 Tryz.f69 0 (z3l t t7a r5a m1017a) Q :=
 RS [false] (z9k r5a) [decide ((↑t7a : Int) < (↑r5a.length : Int)) = false] (PA (decide_eq_false h32) trivial) PN LN hq
end
section
variable {t w xs1 : List Int} (c2 : Runs X F.z1n [.immI .i64 t,.immI .i64 w] [] (rowR xs1)) {xs3 : List Int} (c4 : Runs X F.z2a [.immI .i64 ((rcdAt [(Rcd.mk ([]) ([xs1,[]]) ([]))] 0).ls.headD [])] [] ⟨D.str (bytesOf xs3),[],[]⟩) {r5az : List Rcd}
include c2 c4
theorem zro (l33 : wl F.z7 0 Tryz.f69 0 (z3l t 0 [(Rcd.mk ([]) ([xs1,[]]) ([]))] (mset MK.str [] (encS (bytesOf xs3),(0 : Int)) (b2i true))) (z9j r5az)) : Runs X F.z7 [.immI .i64 t,.immI .i64 w] [] ⟨D.rcs 600000 2 r5az.length,[],[⟨true,Cont.recs [FK.ints .i64,FK.ints .i64] r5az⟩]⟩ :=
 RG zi1 [true] [0 + xs1.length <= xs1.length,0 = 0 /\ xs1.length = xs1.length,(0 : Int) <= (0 : Int) /\ (0 : Int) < (↑1 : Int),0 < 1] (PO (PA ⟨(by first|omega|simp),(by omega)⟩ (PA ⟨(by omega),(by omega)⟩ (PO trivial)))) (PC c2 (PC c4 PN)) (LC l33 LN)
theorem zrp (l34 : wl F.z7 0 Tryz.f69 0 (z3l t 0 [(Rcd.mk ([]) ([xs1,[]]) ([]))] (mset MK.str [] (encS (bytesOf xs3),(0 : Int)) (b2i true))) (z9k r5az)) : Runs X F.z7 [.immI .i64 t,.immI .i64 w] [] ⟨D.rcs 600000 2 r5az.length,[],[⟨true,Cont.recs [FK.ints .i64,FK.ints .i64] r5az⟩]⟩ :=
 RG zi1 [true] [0 + xs1.length <= xs1.length,0 = 0 /\ xs1.length = xs1.length,(0 : Int) <= (0 : Int) /\ (0 : Int) < (↑1 : Int),0 < 1] (PO (PA ⟨(by first|omega|simp),(by omega)⟩ (PA ⟨(by omega),(by omega)⟩ (PO trivial)))) (PC c2 (PC c4 PN)) (LC l34 LN)
end
theorem zqg : X.ft F.z1m = some Tryz.f92 := by kernel_rfl
theorem zqh {u b w : List Int} {b1 : Bool} (c2 : Runs X F.z2d [.immI .i64 u,.immI .i64 w] [] (boolR b1)) : Runs X F.z1m [.agg [.immI .i64 u,.immI .i64 b],.pim [.immI .i64 w]] [] (boolR b1) :=
 RG zqg [] [] trivial (PC c2 PN) LN
theorem zks : X.ft F.z17 = some Tryz.f91 := by kernel_rfl
def z3u (ps : List Rcd) (w : List Int) (t8a : Nat) : LSt := ⟨mkE 19 0 [(0,.immR [FK.ints .i64,FK.ints .i64] ps),(1,.fn F.z1m [.pim [.immI .i64 w]]),(7,iD (↑ps.length : Int)),(8,iD (↑t8a : Int))],[]⟩
def zax (t4az : Nat) : OutL := .ret ⟨mkE 19 0 [(4,iD (↑t4az : Int))],[]⟩
def zay : OutL := .exit 0 ⟨mkE 19 0 [],[]⟩
section
variable {Q : Out -> Prop} {ps : List Rcd} {w : List Int} {t8a : Nat} (h1 : (↑t8a : Int) < (↑ps.length : Int)) {b2 : Bool} (c3 : Runs X F.z1m [.agg [.immI .i64 ((rcdAt ps t8a).ls.headD []),.immI .i64 ((rcdAt ps t8a).ls.tail.headD [])],.pim [.immI .i64 w]] [] (boolR b2))
include h1 c3
theorem zxj (h4 : b2 = true) (hq : Q (zax t8a).out) : wq F.z17 0 Tryz.f91 0 (z3u ps w t8a) Q :=
 RS [true,true] (zax t8a) [decide ((↑t8a : Int) < (↑ps.length : Int)) = true,(0 : Int) <= (↑t8a : Int) /\ (↑t8a : Int) < (↑ps.length : Int),b2 = true] (PA (decide_eq_true h1) (PA ⟨(by omega),h1⟩ (PA h4 trivial))) (PC c3 PN) LN hq
theorem zkt (h5 : b2 = false) (h6 : (↑t8a : Int) + (1 : Int) <= (9223372036854775807 : Int)) (hq : wq F.z17 0 Tryz.f91 0 (z3u ps w (t8a + 1)) Q) : wq F.z17 0 Tryz.f91 0 (z3u ps w t8a) Q :=
 RS [true,false] (.normal (z3u ps w (t8a + 1))) [decide ((↑t8a : Int) < (↑ps.length : Int)) = true,(0 : Int) <= (↑t8a : Int) /\ (↑t8a : Int) < (↑ps.length : Int),b2 = false,inR ((↑t8a : Int) + (1 : Int))] (PA (decide_eq_true h1) (PA ⟨(by omega),h1⟩ (PA h5 (PA ⟨(by omega),h6⟩ trivial)))) (PC c3 PN) LN hq
end
theorem zxk {Q : Out -> Prop} {ps : List Rcd} {w : List Int} {t8a : Nat} (h7 : ¬(↑t8a : Int) < (↑ps.length : Int)) (hq : Q (zay).out) : wq F.z17 0 Tryz.f91 0 (z3u ps w t8a) Q :=
 RS [false] (zay) [decide ((↑t8a : Int) < (↑ps.length : Int)) = false] (PA (decide_eq_false h7) trivial) PN LN hq
theorem zxh {ps : List Rcd} {w : List Int} {t4az : Nat} (l8 : wl F.z17 0 Tryz.f91 0 (z3u ps w 0) (zax t4az)) : Runs X F.z17 [.immR [FK.ints .i64,FK.ints .i64] ps,.fn F.z1m [.pim [.immI .i64 w]]] [] ⟨iD (↑t4az : Int),[],[]⟩ :=
 RG zks [] [] trivial PN (LC l8 LN)
theorem zxi {ps : List Rcd} {w : List Int} (l9 : wl F.z17 0 Tryz.f91 0 (z3u ps w 0) zay) : Runs X F.z17 [.immR [FK.ints .i64,FK.ints .i64] ps,.fn F.z1m [.pim [.immI .i64 w]]] [] ⟨iD (-1 : Int),[],[]⟩ :=
 RG zks [] [] trivial PN (LC l9 LN)
end Go.PR.S
