/- Path lemmas (written by Vc.lean). -/
import Derived.Test.YtnhklcbddcoadaaGreatDoorFwMk
import Derived.Test.YtnhklcbddcoadaaGreatDoorFwP26
set_option linter.unusedVariables false
set_option linter.unusedSimpArgs false
set_option linter.unusedSectionVars false
section
set_option maxRecDepth 20000
open Go Go.PR Go.Proofs Go.PR.S
namespace Go.PR.S
theorem zyg : X.ft F.z39 = some Tryz.f118 := by kernel_rfl
def z7a (c : List Int) (t4a : Nat) (t1011_2a : Int) : LSt := ⟨mkE 38 0 [(0,.immI .u8 c),(3,.ptr 1011 0),(4,iD (↑t4a : Int))],[(1011,⟨true,.var [.immI .u8 c,iD 0,.int .u64 t1011_2a]⟩)]⟩
def zb3 (c : List Int) (t1011_2az : Int) : OutL := .exit 0 ⟨mkE 38 0 [(3,.ptr 1011 0)],[(1011,⟨true,.var [.immI .u8 c,iD 0,.int .u64 t1011_2az]⟩)]⟩
section
variable {Q : Out -> Prop} {c : List Int} {t4a : Nat} {t1011_2a : Int}
theorem zyi (h1 : (↑t4a : Int) < (↑c.length : Int)) (h2 : (↑t4a : Int) < (4096 : Int)) (hq : wq F.z39 0 Tryz.f118 0 (z7a c (t4a + 1) (uadd (uadd (umul t1011_2a (1099511628211 : Int)) (IntKind.u64.wrap (c.getD t4a 0))) (11 : Int))) Q) : wq F.z39 0 Tryz.f118 0 (z7a c t4a t1011_2a) Q :=
 RS [true,true,true,true] (.normal (z7a c (t4a + 1) (uadd (uadd (umul t1011_2a (1099511628211 : Int)) (IntKind.u64.wrap (c.getD t4a 0))) (11 : Int)))) [decide ((↑t4a : Int) < (↑c.length : Int)) = true,decide ((↑t4a : Int) < (↑c.length : Int)) = true,decide ((↑t4a : Int) < (↑c.length : Int)) = true,decide ((↑t4a : Int) < (4096 : Int)) = true,(0 : Int) <= (↑t4a : Int) /\ (↑t4a : Int) < (↑c.length : Int),inR ((↑t4a : Int) + (1 : Int))] (PA (decide_eq_true h1) (PA (decide_eq_true h1) (PA (decide_eq_true h1) (PA (decide_eq_true h2) (PA ⟨(by omega),h1⟩ (PA ⟨(by omega),(by omega)⟩ trivial)))))) PN LN hq
theorem zyj (h4 : ¬(↑t4a : Int) < (↑c.length : Int)) (hq : Q (zb3 c t1011_2a).out) : wq F.z39 0 Tryz.f118 0 (z7a c t4a t1011_2a) Q :=
 RS [false,false,false,false] (zb3 c t1011_2a) [decide ((↑t4a : Int) < (↑c.length : Int)) = false,decide ((↑t4a : Int) < (↑c.length : Int)) = false,decide ((↑t4a : Int) < (↑c.length : Int)) = false,false = false] (PA (decide_eq_false h4) (PA (decide_eq_false h4) (PA (decide_eq_false h4) (PO trivial)))) PN LN hq
end
theorem zyh {c : List Int} {t1011_2az : Int} (l5 : wl F.z39 0 Tryz.f118 0 (z7a c 0 (uadd (9341 : Int) (IntKind.u64.wrap (↑c.length : Int)))) (zb3 c t1011_2az)) : Runs X F.z39 [.immI .u8 c] [] ⟨.ptr 600000 0,[],[⟨true,.var [.immI .u8 c,iD 0,.int .u64 t1011_2az]⟩]⟩ :=
 RG zyg [] [] trivial PN (LC l5 LN)
theorem zf0 : X.ft F.z5 = some Tryz.f66 := by kernel_rfl
section
variable {n : Int} {c : List Int} {a h : Int}
theorem zyt (h1 : n < (1 : Int)) : Runs X F.z5 [.ptr 500000 0,iD n] [⟨true,.var [.immI .u8 c,iD a,.int .u64 h]⟩] ⟨iD 0,[some ⟨true,.var [.immI .u8 c,iD a,.int .u64 h]⟩],[]⟩ :=
 RG zf0 [true] [decide (n < (1 : Int)) = true] (PA (decide_eq_true h1) trivial) PN LN
section
variable (h2 : ¬n < (1 : Int)) (h3 : (-9223372036854775808 : Int) <= uand (ushr (uadd (umul h (6364136223846793005 : Int)) (1442695040888963407 : Int)) (33 : Int)) (16777215 : Int)) (h4 : uand (ushr (uadd (umul h (6364136223846793005 : Int)) (1442695040888963407 : Int)) (33 : Int)) (16777215 : Int) <= (9223372036854775807 : Int))
include h2 h3 h4
theorem zyu (h5 : a < (↑c.length : Int)) (h6 : (0 : Int) <= a) (h7 : (-9223372036854775808 : Int) <= c.getD a.toNat 0) (h8 : c.getD a.toNat 0 <= (9223372036854775807 : Int)) (h9 : (-9223372036854775808 : Int) <= uand (ushr (uadd (umul h (6364136223846793005 : Int)) (1442695040888963407 : Int)) (33 : Int)) (16777215 : Int) + c.getD a.toNat 0) (h10 : uand (ushr (uadd (umul h (6364136223846793005 : Int)) (1442695040888963407 : Int)) (33 : Int)) (16777215 : Int) + c.getD a.toNat 0 <= (9223372036854775807 : Int)) (h11 : a + (1 : Int) <= (9223372036854775807 : Int)) : Runs X F.z5 [.ptr 500000 0,iD n] [⟨true,.var [.immI .u8 c,iD a,.int .u64 h]⟩] ⟨iD ((uand (ushr (uadd (umul h (6364136223846793005 : Int)) (1442695040888963407 : Int)) (33 : Int)) (16777215 : Int) + c.getD a.toNat 0).tmod n),[some ⟨true,.var [.immI .u8 c,iD (a + (1 : Int)),.int .u64 (uadd (umul h (6364136223846793005 : Int)) (1442695040888963407 : Int))]⟩],[]⟩ :=
 RG zf0 [false,true] [decide (n < (1 : Int)) = false,(0 : Int) <= (33 : Int),inR (uand (ushr (uadd (umul h (6364136223846793005 : Int)) (1442695040888963407 : Int)) (33 : Int)) (16777215 : Int)),decide (a < (↑c.length : Int)) = true,(0 : Int) <= a /\ a < (↑c.length : Int),inR (c.getD a.toNat 0),inR (uand (ushr (uadd (umul h (6364136223846793005 : Int)) (1442695040888963407 : Int)) (33 : Int)) (16777215 : Int) + c.getD a.toNat 0),inR (a + (1 : Int)),n ≠ (0 : Int)] (PA (decide_eq_false h2) (PO (PA ⟨h3,h4⟩ (PA (decide_eq_true h5) (PA ⟨h6,h5⟩ (PA ⟨h7,h8⟩ (PA ⟨h9,h10⟩ (PA ⟨(by omega),h11⟩ (PO trivial))))))))) PN LN
theorem zyv (h12 : ¬a < (↑c.length : Int)) : Runs X F.z5 [.ptr 500000 0,iD n] [⟨true,.var [.immI .u8 c,iD a,.int .u64 h]⟩] ⟨iD ((uand (ushr (uadd (umul h (6364136223846793005 : Int)) (1442695040888963407 : Int)) (33 : Int)) (16777215 : Int)).tmod n),[some ⟨true,.var [.immI .u8 c,iD a,.int .u64 (uadd (umul h (6364136223846793005 : Int)) (1442695040888963407 : Int))]⟩],[]⟩ :=
 RG zf0 [false,false] [decide (n < (1 : Int)) = false,(0 : Int) <= (33 : Int),inR (uand (ushr (uadd (umul h (6364136223846793005 : Int)) (1442695040888963407 : Int)) (33 : Int)) (16777215 : Int)),decide (a < (↑c.length : Int)) = false,n ≠ (0 : Int)] (PA (decide_eq_false h2) (PO (PA ⟨h3,h4⟩ (PA (decide_eq_false h12) (PO trivial))))) PN LN
end
end
theorem zz0 : X.ft F.z3z = some Tryz.f122 := by kernel_rfl
theorem zz1 {ys c : List Int} {a h r1 : Int} {c2 : List Int} {a3 h4 : Int} (c5 : Runs X F.z5 [.ptr 500000 0,iD (↑ys.length : Int)] [⟨true,.var [.immI .u8 c,iD a,.int .u64 h]⟩] ⟨iD r1,[some ⟨true,.var [.immI .u8 c2,iD a3,.int .u64 h4]⟩],[]⟩) (h6 : (0 : Int) <= r1) (h7 : r1 < (↑ys.length : Int)) : Runs X F.z3z [.ptr 500000 0,.rsl 500001 0 ys.length] [⟨true,.var [.immI .u8 c,iD a,.int .u64 h]⟩,⟨true,.ints .i64 ys⟩] ⟨iD (ys.getD (0 + r1.toNat) 0),[some ⟨true,.var [.immI .u8 c2,iD a3,.int .u64 h4]⟩,some ⟨true,.ints .i64 ys⟩],[]⟩ :=
 RG zz0 [] [(0 : Int) <= r1 /\ r1 < (↑ys.length : Int),0 + r1.toNat < ys.length] (PA ⟨h6,h7⟩ (PO trivial)) (PC c5 PN) LN
theorem zzj : X.ft F.z1q = some Tryz.f129 := by kernel_rfl
def z7c (n : Int) (t4a : Nat) (r2003001a : List Int) : LSt := ⟨mkE 21 0 [(0,iD n),(2,.ptr 1002 0),(3,.ptr 1003 0),(4,iD (↑t4a : Int))],[(1002,⟨true,.var [iD 0,.nil NK.unk]⟩),(1003,⟨true,.var [iD n,.rsl 2003001 0 r2003001a.length]⟩),(2003001,⟨true,.ints .i64 r2003001a⟩)]⟩
def zba (n : Int) (r2003001az : List Int) : OutL := .exit 0 ⟨mkE 21 0 [(2,.ptr 1002 0),(3,.ptr 1003 0)],[(1002,⟨true,.var [iD 0,.nil NK.unk]⟩),(1003,⟨true,.var [iD n,.rsl 2003001 0 r2003001az.length]⟩),(2003001,⟨true,.ints .i64 r2003001az⟩)]⟩
section
variable {Q : Out -> Prop} {n : Int} {t4a : Nat} {r2003001a : List Int}
theorem zzl (h1 : (↑t4a : Int) < n) {r2 : Int} (c3 : Runs X F.z2w [iD (↑t4a : Int)] [] (intR r2)) (h4 : r2003001a.length + 1 <= 1099511627776) (h5 : (↑t4a : Int) + (1 : Int) <= (9223372036854775807 : Int)) (hq : wq F.z1q 0 Tryz.f129 0 (z7c n (t4a + 1) (r2003001a ++ [r2])) Q) : wq F.z1q 0 Tryz.f129 0 (z7c n t4a r2003001a) Q :=
 RS [true,true,true,true] (.normal (z7c n (t4a + 1) (r2003001a ++ [r2]))) [decide ((↑t4a : Int) < n) = true,1 <= 1,0 = 0 /\ 1 = 1,0 + r2003001a.length = r2003001a.length /\ r2003001a.length + 1 <= 1099511627776,0 = 0 /\ r2003001a.length = r2003001a.length,inR ((↑t4a : Int) + (1 : Int))] (PA (decide_eq_true h1) (PO (PA ⟨(by omega),(by first|omega|simp)⟩ (PA ⟨(by first|omega|simp),h4⟩ (PA ⟨(by first|omega|simp),(by omega)⟩ (PA ⟨(by omega),h5⟩ trivial)))))) (PC c3 PN) LN hq
theorem zzm (h6 : ¬(↑t4a : Int) < n) (hq : Q (zba n r2003001a).out) : wq F.z1q 0 Tryz.f129 0 (z7c n t4a r2003001a) Q :=
 RS [false] (zba n r2003001a) [decide ((↑t4a : Int) < n) = false] (PA (decide_eq_false h6) trivial) PN LN hq
end
theorem zzk {n : Int} {r2003001az : List Int} (l7 : wl F.z1q 0 Tryz.f129 0 (z7c n 0 []) (zba n r2003001az)) : Runs X F.z1q [iD n] [] ⟨.agg [iD n,.rsl 600000 0 r2003001az.length],[],[⟨true,.ints .i64 r2003001az⟩]⟩ :=
 RG zzj [] [] trivial PN (LC l7 LN)
theorem zzz : X.ft F.zbe = some Tryz.f130 := by kernel_rfl
theorem z100 {n : Int} {xs : List Int} {x y : Int} (h1 : (0 : Int) <= x) (h2 : x < (↑xs.length : Int)) {r3 : Int} (c4 : Runs X F.z2w [iD y] [] (intR r3)) (h5 : (0 : Int) <= y) (h6 : y < (↑xs.length : Int)) {r7 : Int} (c8 : Runs X F.z2w [iD x] [] (intR r7)) : Runs X F.zbe [.agg [iD n,.rsl 500000 0 xs.length],iD x,iD y] [⟨true,.ints .i64 xs⟩] ⟨.tup [],[some ⟨true,.ints .i64 ((xs.set (0 + x.toNat) (ior (xs.getD (0 + x.toNat) 0) r3)).set (0 + y.toNat) (ior ((xs.set (0 + x.toNat) (ior (xs.getD (0 + x.toNat) 0) r3)).getD (0 + y.toNat) 0) r7))⟩],[]⟩ :=
 RG zzz [] [(0 : Int) <= x /\ x < (↑xs.length : Int),0 + x.toNat < xs.length,(0 : Int) <= x /\ x < (↑xs.length : Int),0 + x.toNat < xs.length,(0 : Int) <= y /\ y < (↑xs.length : Int),0 + y.toNat < (xs.set (0 + x.toNat) (ior (xs.getD (0 + x.toNat) 0) r3)).length,(0 : Int) <= y /\ y < (↑xs.length : Int),0 + y.toNat < (xs.set (0 + x.toNat) (ior (xs.getD (0 + x.toNat) 0) r3)).length] (PA ⟨h1,h2⟩ (PO (PA ⟨h1,h2⟩ (PO (PA ⟨h5,h6⟩ (PO (PA ⟨h5,h6⟩ (PO trivial)))))))) (PC c4 (PC c8 PN)) LN
theorem zln : X.ft F.z25 = some Tryz.f65 := by kernel_rfl
section
variable {n : Int} {d w : List Int} {b1 : Bool} (c2 : Runs X F.za [alD n d] [] (boolR b1))
include c2
theorem z123 (h3 : b1 = true) {b4 : Bool} (c5 : Runs X F.z1d [iD n,.immI .i64 w] [] (boolR b4)) : Runs X F.z25 [alD n d,.immI .i64 w] [] (boolR b4) :=
 RG zln [true,true,true,true,true] [b1 = true,b1 = true,b1 = true,b1 = true,b1 = true] (PA h3 (PA h3 (PA h3 (PA h3 (PA h3 trivial))))) (PC c2 (PC c5 PN)) LN
theorem z124 (h6 : b1 = false) : Runs X F.z25 [alD n d,.immI .i64 w] [] (boolR false) :=
 RG zln [false,false,false,false,false] [b1 = false,b1 = false,b1 = false,b1 = false,b1 = false] (PA h6 (PA h6 (PA h6 (PA h6 (PA h6 trivial))))) (PC c2 PN) LN
end
theorem ztg : X.ft F.z4m = some Tryz.f5 := by kernel_rfl
theorem zth {c : List Int} : Runs X F.z4m [.immI .u8 c] [] ⟨.bool (decide ((↑c.length : Int) > (4096 : Int))),[],[]⟩ :=
 RG ztg [] [] trivial PN LN
theorem zdm : X.ft F.z14 = some Tryz.f9 := by kernel_rfl
theorem ztl {u v : List Int} (h1 : ¬(↑u.length : Int) = (↑v.length : Int)) : Runs X F.z14 [.immI .i64 u,.immI .i64 v] [] (boolR false) :=
 RG zdm [true] [((↑u.length : Int) != (↑v.length : Int)) = true] (PA (bne_iff_ne.2 h1) trivial) PN LN
def z4n (u v : List Int) (t5a : Nat) : LSt := ⟨mkE 26 0 [(0,.immI .i64 u),(1,.immI .i64 v),(5,iD (↑t5a : Int))],[]⟩
def za1 : OutL := .ret ⟨mkE 26 0 [(4,.bool false)],[]⟩
def za2 : OutL := .exit 0 ⟨mkE 26 0 [],[]⟩
section
variable {Q : Out -> Prop} {u v : List Int} (h2 : (↑u.length : Int) = (↑v.length : Int)) {t5a : Nat}
include h2
section
variable (h3 : (↑t5a : Int) < (↑u.length : Int))
include h3
theorem zto (h4 : ¬u.getD t5a 0 = v.getD t5a 0) (hq : Q (za1).out) : wq F.z14 0 Tryz.f9 0 (z4n u v t5a) Q :=
 RS [true,true] (za1) [decide ((↑t5a : Int) < (↑u.length : Int)) = true,(0 : Int) <= (↑t5a : Int) /\ (↑t5a : Int) < (↑u.length : Int),(0 : Int) <= (↑t5a : Int) /\ (↑t5a : Int) < (↑v.length : Int),(u.getD t5a 0 != v.getD t5a 0) = true] (PA (decide_eq_true h3) (PA ⟨(by omega),h3⟩ (PA ⟨(by omega),(by omega)⟩ (PA (bne_iff_ne.2 h4) trivial)))) PN LN hq
theorem ztp (h5 : u.getD t5a 0 = v.getD t5a 0) (h6 : (↑t5a : Int) + (1 : Int) <= (9223372036854775807 : Int)) (hq : wq F.z14 0 Tryz.f9 0 (z4n u v (t5a + 1)) Q) : wq F.z14 0 Tryz.f9 0 (z4n u v t5a) Q :=
 RS [true,false] (.normal (z4n u v (t5a + 1))) [decide ((↑t5a : Int) < (↑u.length : Int)) = true,(0 : Int) <= (↑t5a : Int) /\ (↑t5a : Int) < (↑u.length : Int),(0 : Int) <= (↑t5a : Int) /\ (↑t5a : Int) < (↑v.length : Int),(u.getD t5a 0 != v.getD t5a 0) = false,inR ((↑t5a : Int) + (1 : Int))] (PA (decide_eq_true h3) (PA ⟨(by omega),h3⟩ (PA ⟨(by omega),(by omega)⟩ (PA (bne_eq_false_iff_eq.2 h5) (PA ⟨(by omega),h6⟩ trivial))))) PN LN hq
end
theorem ztq (h7 : ¬(↑t5a : Int) < (↑u.length : Int)) (hq : Q (za2).out) : wq F.z14 0 Tryz.f9 0 (z4n u v t5a) Q :=
 RS [false] (za2) [decide ((↑t5a : Int) < (↑u.length : Int)) = false] (PA (decide_eq_false h7) trivial) PN LN hq
end
section
variable {u v : List Int} (h2 : (↑u.length : Int) = (↑v.length : Int))
include h2
theorem ztm (l8 : wl F.z14 0 Tryz.f9 0 (z4n u v 0) za1) : Runs X F.z14 [.immI .i64 u,.immI .i64 v] [] (boolR false) :=
 RG zdm [false] [((↑u.length : Int) != (↑v.length : Int)) = false] (PA (bne_eq_false_iff_eq.2 h2) trivial) PN (LC l8 LN)
theorem ztn (l9 : wl F.z14 0 Tryz.f9 0 (z4n u v 0) za2) : Runs X F.z14 [.immI .i64 u,.immI .i64 v] [] (boolR true) :=
 RG zdm [false] [((↑u.length : Int) != (↑v.length : Int)) = false] (PA (bne_eq_false_iff_eq.2 h2) trivial) PN (LC l9 LN)
end
end Go.PR.S

end

section
set_option maxRecDepth 20000
namespace Go.PR.S
open Go Go.PR Go.Proofs Gp
abbrev srcRow (c : List Int) (a h : Int) : Row := ⟨true,.var [.immI .u8 c,.int .i64 a,.int .u64 h]⟩
abbrev bD (c : List Int) : D := .immI .u8 c
abbrev sp : D := .ptr 500000 0
structure Bytes (c : List Int) : Prop where
 len : c.length <= 4096
 rng : ∀ x ∈ c,0 <= x /\ x <= 255
theorem Bytes.at {c : List Int} (h : Bytes c) {i : Nat} (hi : i < c.length) : 0 <= c.getD i 0 /\ c.getD i 0 <= 255 := by
 rw [getD_lt hi]; exact h.rng _ (List.getElem_mem hi)
theorem uand_le (x : Int) {m : Nat} (hm : m < 2 ^ 63) : 0 <= uand x m /\ uand x m <= m := by
 unfold uand
 have h1 : (BitVec.ofInt IntKind.u64.bits x &&& BitVec.ofInt IntKind.u64.bits (m : Int)).toNat <= m := by
  rw [BitVec.toNat_and]
  refine Nat.le_trans Nat.and_le_right ?_
  rw [BitVec.toNat_ofInt]
  have : ((m : Int) % ((2 ^ IntKind.u64.bits : Nat) : Int)).toNat = m := by
   have : ((2 ^ IntKind.u64.bits : Nat) : Int) = 18446744073709551616 := by decide
   rw [this]; omega
  omega
 rw [IntKind.wrap_u64]
 omega
theorem tmod_bd {x n : Int} (hx : 0 <= x) (hn : 1 <= n) : 0 <= x.tmod n /\ x.tmod n < n := by
 rw [Int.tmod_eq_emod_of_nonneg hx]
 exact ⟨Int.emod_nonneg _ (by omega),Int.emod_lt_of_pos _ (by omega)⟩
theorem zw3 {c : List Int} (hc : Bytes c) : ∃ h,Runs X F.z39 [bD c] [] ⟨.ptr 600000 0,[],[srcRow c 0 h]⟩ := by
 have hl := hc.len
 have key : ∀ (k i : Nat) (h : Int),i + k = c.length -> ∃ h',WpL X F.z39 0 (lb Tryz.f118 0) (z7a c i h).st (fun o => o = (zb3 c h').out) := by
  intro k
  induction k with
  | zero => intro i h hi; exact ⟨h,zyj (by omega) rfl⟩
  | succ k ih =>
    intro i h hi
    obtain ⟨h',hh⟩ := ih (i + 1) (uadd (uadd (umul h 1099511628211) (IntKind.wrap .u64 (c.getD i 0))) 11) (by omega)
    exact ⟨h',zyi (by omega) (by omega) hh⟩
 obtain ⟨h',hh⟩ := key c.length 0 _ (by omega)
 exact ⟨h',zyh hh⟩
theorem z11 {c : List Int} (hc : Bytes c) (n a h : Int) (ha : 0 <= a) : ∃ r a' h',0 <= a' /\ 0 <= r /\ (1 <= n -> r < n) /\ (n < 1 -> r = 0) /\
  Runs X F.z5 [sp,iD n] [srcRow c a h] ⟨iD r,[some (srcRow c a' h')],[]⟩ := by
 have hl := hc.len
 by_cases hn : n < 1
 · exact ⟨0,a,h,ha,by omega,by omega,fun _ => rfl,zyt hn⟩
 · have hu : 0 <= uand (ushr (uadd (umul h 6364136223846793005) 1442695040888963407) 33) 16777215 /\ uand (ushr (uadd (umul h 6364136223846793005) 1442695040888963407) 33) 16777215 <= 16777215 := uand_le _ (m := 16777215) (by omega)
   by_cases hal : a < c.length
   · have hb := hc.at (i := a.toNat) (by omega)
     have ht := tmod_bd (x := uand (ushr (uadd (umul h 6364136223846793005) 1442695040888963407) 33) 16777215 + c.getD a.toNat 0) (n := n) (by omega) (by omega)
     exact ⟨_,a + 1,_,by omega,ht.1,fun _ => ht.2,by omega,zyu hn (by omega) (by omega) hal ha (by omega) (by omega) (by omega) (by omega) (by omega)⟩
   · have ht := tmod_bd (x := uand (ushr (uadd (umul h 6364136223846793005) 1442695040888963407) 33) 16777215) (n := n) (by omega) (by omega)
     exact ⟨_,a,_,ha,ht.1,fun _ => ht.2,by omega,zyv hn (by omega) (by omega) hal⟩
theorem z75 {c : List Int} (hc : Bytes c) (ys : List Int) (hy : ys ≠ []) (a h : Int) (ha : 0 <= a) : ∃ r a' h',0 <= a' /\ r ∈ ys /\
  Runs X F.z3z [sp,.rsl 500001 0 ys.length] [srcRow c a h,⟨true,.ints .i64 ys⟩] ⟨iD r,[some (srcRow c a' h'),some ⟨true,.ints .i64 ys⟩],[]⟩ := by
 have hlen : 1 <= (ys.length : Int) := by cases ys with | nil => exact absurd rfl hy | cons => simp; omega
 obtain ⟨r,a',h',h1,h2,h3,h4,h5⟩ := z11 hc ys.length a h ha
 have h3 := h3 hlen
 refine ⟨_,a',h',h1,?_,zz1 h5 h2 h3⟩
 rw [getD_lt (by omega)]
 exact List.getElem_mem _
theorem zvy (c : List Int) : Runs X F.z4m [bD c] [] (boolR (decide ((c.length : Int) > 4096))) := zth
theorem zwe (u v : List Int) (hu : u.length <= B40) : Runs X F.z14 [lD u,lD v] [] (boolR (decide (u = v))) := by
 unfold B40 at hu
 by_cases hl : u.length = v.length
 · have hlp := z5n (f := F.z14) (b := 0) (body := lb Tryz.f9 0) (N := u.length) (oF := za1) (oT := za2) (st := fun i => z4n u v i)
    (p := fun i => decide (u.getD i 0 = v.getD i 0)) (fun i hi hp Q hq => ?_) (fun i hi hp Q hq => ?_) (fun Q hq => ?_)
   · have e : (List.range u.length).all (fun i => decide (u.getD i 0 = v.getD i 0)) = decide (u = v) := by
      rw [Bool.eq_iff_iff,List.all_eq_true,decide_eq_true_iff]
      constructor
      · intro h
        apply List.ext_getElem hl
        intro i h1 h2
        have := h i (List.mem_range.2 h1)
        rwa [decide_eq_true_iff,getD_lt h1,getD_lt h2] at this
      · intro h i _; rw [h]; simp
     rw [e] at hlp
     cases hd : decide (u = v) with
     | true => rw [hd] at hlp; exact ztn (by omega) hlp
     | false => rw [hd] at hlp; exact ztm (by omega) hlp
   · exact ztp (by omega) (by omega) (by simpa using hp) (by omega) hq
   · exact zto (by omega) (by omega) (by simpa using hp) hq
   · exact ztq (by omega) (by omega) hq
 · have : decide (u = v) = false := decide_eq_false fun e => hl (by rw [e])
   rw [this]
   exact ztl (by omega)
def Msk (xs : List Int) : Prop := ∀ x ∈ xs,∃ k : Nat,x = k /\ k < 256
theorem Msk.at {xs : List Int} (h : Msk xs) {i : Nat} (hi : i < xs.length) : ∃ k : Nat,xs.getD i 0 = k /\ k < 256 := by
 rw [getD_lt hi]; exact h _ (List.getElem_mem hi)
theorem Msk.set {xs : List Int} (h : Msk xs) (i : Nat) {x : Int} (hx : ∃ k : Nat,x = k /\ k < 256) : Msk (xs.set i x) := fun y hy => by
 rcases List.mem_or_eq_of_mem_set hy with hy | rfl
 · exact h y hy
 · exact hx
theorem ior_msk {x y : Int} (hx : ∃ k : Nat,x = k /\ k < 256) (hy : ∃ k : Nat,y = k /\ k < 256) : ∃ k : Nat,ior x y = k /\ k < 256 := by
 obtain ⟨a,rfl,ha⟩ := hx
 obtain ⟨b,rfl,hb⟩ := hy
 exact ⟨a ||| b,ior_nat (by omega) (by omega),Nat.or_lt_two_pow (n := 8) ha hb⟩
theorem pow_msk {i : Nat} (h : i < 8) : ∃ k : Nat,((2 ^ i : Nat) : Int) = k /\ k < 256 := ⟨2 ^ i,rfl,Nat.pow_lt_pow_right (n := 8) (by omega) h⟩
theorem zk4 {n : Nat} (hn : n <= 8) : ∃ xs : List Int,xs.length = n /\ Msk xs /\ Runs X F.z1q [iD n] [] ⟨.agg [iD n,.rsl 600000 0 xs.length],[],[⟨true,.ints .i64 xs⟩]⟩ := by
 have key : ∀ (k i : Nat) (xs : List Int),i + k = n -> xs.length = i -> Msk xs -> ∃ ys : List Int,ys.length = n /\ Msk ys /\ WpL X F.z1q 0 (lb Tryz.f129 0) (z7c n i xs).st (fun o => o = (zba n ys).out) := by
  intro k
  induction k with
  | zero => intro i xs hi hx hm; exact ⟨xs,by omega,hm,zzm (by omega) rfl⟩
  | succ k ih =>
    intro i xs hi hx hm
    obtain ⟨ys,h1,h2,h3⟩ := ih (i + 1) (xs ++ [((2 ^ i : Nat) : Int)]) (by omega) (by simp [hx]) (fun y hy => by
     rcases List.mem_append.1 hy with hy | hy
     · exact hm y hy
     · rw [List.mem_singleton.1 hy]; exact pow_msk (by omega))
    exact ⟨ys,h1,h2,zzl (by omega) (z5x (by omega)) (by omega) (by omega) h3⟩
 obtain ⟨ys,h1,h2,h3⟩ := key n 0 [] (by omega) rfl (fun y hy => by cases hy)
 exact ⟨ys,h1,h2,zzk h3⟩
theorem zw7 {n : Int} {xs : List Int} {x y : Nat} (hx : x < xs.length) (hy : y < xs.length) (hl : xs.length <= 8) (hm : Msk xs) : ∃ ys : List Int,ys.length = xs.length /\ Msk ys /\
  Runs X F.zbe [.agg [iD n,.rsl 500000 0 xs.length],iD x,iD y] [⟨true,.ints .i64 xs⟩] ⟨.tup [],[some ⟨true,.ints .i64 ys⟩],[]⟩ := by
 refine ⟨_,?_,?_,z100 (by omega) (by omega) (z5x (i := y) (by omega)) (by omega) (by omega) (z5x (i := x) (by omega))⟩
 · simp
 · have h1 : Msk (xs.set (0 + (x : Int).toNat) (ior (xs.getD (0 + (x : Int).toNat) 0) ((2 ^ y : Nat) : Int))) := hm.set _ (ior_msk (hm.at (by omega)) (pow_msk (by omega)))
   exact h1.set _ (ior_msk (h1.at (by rw [List.length_set]; omega)) (pow_msk (by omega)))
theorem zk6 (n : Int) (d w : List Int) (hd : d.length <= B40) (hw : w.length <= B40) : Runs X F.z25 [alD n d,lD w] [] (boolR (decide (sgCode n d [w] = 0))) := by
 have c1 := zee n d hd
 unfold sgCode
 cases h1 : alOK n d with
 | false => rw [h1] at c1; exact z124 c1 rfl
 | true =>
   rw [h1] at c1
   have c2 := zej (alOK_n h1) w hw
   have e2 : decide ((if true = true then (if [w].all (sgOK n) = true then (0 : Int) else 2) else 1) = 0) = sgOK n w := by
    have : [w].all (sgOK n) = sgOK n w := by simp
    rw [this]
    cases sgOK n w <;> rfl
   rw [e2]
   exact z123 c1 rfl c2
end Go.PR.S

end
