/- Path lemmas (written by Vc.lean). -/
import Derived.Test.YtnhklcbddcoadaaGreatDoorFwMk
import Derived.Test.YtnhklcbddcoadaaGreatDoorFwP26
set_option linter.unusedVariables false
set_option linter.unusedSimpArgs false
set_option linter.unusedSectionVars false
section
set_option maxRecDepth 20000
open Go Go.PR Go.Proofs Go.PR.S
namespace Go.PR.S
theorem zxk : X.ft F.z35 = some Tryz.f118 := by kernel_rfl
def z6q (c : List Int) (t4a : Nat) (t1011_2a : Int) : LSt := ⟨mkE 38 0 [(0, .immI .u8 c), (3, .ptr 1011 0), (4, iD (↑t4a : Int))], [(1011, ⟨true, .var [.immI .u8 c, iD 0, .int .u64 t1011_2a]⟩)]⟩
def za8 (c : List Int) (t1011_2az : Int) : OutL := .exit 0 ⟨mkE 38 0 [(3, .ptr 1011 0)], [(1011, ⟨true, .var [.immI .u8 c, iD 0, .int .u64 t1011_2az]⟩)]⟩
theorem zxm {Q : Out → Prop} {c : List Int} {t4a : Nat} {t1011_2a : Int} (h1 : (↑t4a : Int) < (↑c.length : Int)) (h2 : (↑t4a : Int) < (4096 : Int)) (hq : wq F.z35 0 Tryz.f118 0 (z6q c (t4a + 1) (uadd (uadd (umul t1011_2a (1099511628211 : Int)) (IntKind.u64.wrap (c.getD t4a 0))) (11 : Int))) Q) : wq F.z35 0 Tryz.f118 0 (z6q c t4a t1011_2a) Q :=
  RS [true, true, true, true] (.normal (z6q c (t4a + 1) (uadd (uadd (umul t1011_2a (1099511628211 : Int)) (IntKind.u64.wrap (c.getD t4a 0))) (11 : Int)))) [decide ((↑t4a : Int) < (↑c.length : Int)) = true, decide ((↑t4a : Int) < (↑c.length : Int)) = true, decide ((↑t4a : Int) < (↑c.length : Int)) = true, decide ((↑t4a : Int) < (4096 : Int)) = true, (0 : Int) ≤ (↑t4a : Int) ∧ (↑t4a : Int) < (↑c.length : Int), inR ((↑t4a : Int) + (1 : Int))] (PA (decide_eq_true h1) (PA (decide_eq_true h1) (PA (decide_eq_true h1) (PA (decide_eq_true h2) (PA ⟨(by omega), h1⟩ (PA ⟨(by omega), (by omega)⟩ trivial)))))) PN LN hq
theorem zxn {Q : Out → Prop} {c : List Int} {t4a : Nat} {t1011_2a : Int} (h4 : ¬(↑t4a : Int) < (↑c.length : Int)) (hq : Q (za8 c t1011_2a).out) : wq F.z35 0 Tryz.f118 0 (z6q c t4a t1011_2a) Q :=
  RS [false, false, false, false] (za8 c t1011_2a) [decide ((↑t4a : Int) < (↑c.length : Int)) = false, decide ((↑t4a : Int) < (↑c.length : Int)) = false, decide ((↑t4a : Int) < (↑c.length : Int)) = false, false = false] (PA (decide_eq_false h4) (PA (decide_eq_false h4) (PA (decide_eq_false h4) (PO trivial)))) PN LN hq
theorem zxl {c : List Int} {t1011_2az : Int} (l5 : wl F.z35 0 Tryz.f118 0 (z6q c 0 (uadd (9341 : Int) (IntKind.u64.wrap (↑c.length : Int)))) (za8 c t1011_2az)) : Runs X F.z35 [.immI .u8 c] [] ⟨.ptr 600000 0, [], [⟨true, .var [.immI .u8 c, iD 0, .int .u64 t1011_2az]⟩]⟩ :=
  RG zxk [] [] trivial PN (LC l5 LN)
theorem ze7 : X.ft F.z5 = some Tryz.f66 := by kernel_rfl
theorem zxx {n : Int} {c : List Int} {a h : Int} (h1 : n < (1 : Int)) : Runs X F.z5 [.ptr 500000 0, iD n] [⟨true, .var [.immI .u8 c, iD a, .int .u64 h]⟩] ⟨iD 0, [some ⟨true, .var [.immI .u8 c, iD a, .int .u64 h]⟩], []⟩ :=
  RG ze7 [true] [decide (n < (1 : Int)) = true] (PA (decide_eq_true h1) trivial) PN LN
theorem zxy {n : Int} {c : List Int} {a h : Int} (h2 : ¬n < (1 : Int)) (h3 : (-9223372036854775808 : Int) ≤ uand (ushr (uadd (umul h (6364136223846793005 : Int)) (1442695040888963407 : Int)) (33 : Int)) (16777215 : Int)) (h4 : uand (ushr (uadd (umul h (6364136223846793005 : Int)) (1442695040888963407 : Int)) (33 : Int)) (16777215 : Int) ≤ (9223372036854775807 : Int)) (h5 : a < (↑c.length : Int)) (h6 : (0 : Int) ≤ a) (h7 : (-9223372036854775808 : Int) ≤ c.getD a.toNat 0) (h8 : c.getD a.toNat 0 ≤ (9223372036854775807 : Int)) (h9 : (-9223372036854775808 : Int) ≤ uand (ushr (uadd (umul h (6364136223846793005 : Int)) (1442695040888963407 : Int)) (33 : Int)) (16777215 : Int) + c.getD a.toNat 0) (h10 : uand (ushr (uadd (umul h (6364136223846793005 : Int)) (1442695040888963407 : Int)) (33 : Int)) (16777215 : Int) + c.getD a.toNat 0 ≤ (9223372036854775807 : Int)) (h11 : a + (1 : Int) ≤ (9223372036854775807 : Int)) : Runs X F.z5 [.ptr 500000 0, iD n] [⟨true, .var [.immI .u8 c, iD a, .int .u64 h]⟩] ⟨iD ((uand (ushr (uadd (umul h (6364136223846793005 : Int)) (1442695040888963407 : Int)) (33 : Int)) (16777215 : Int) + c.getD a.toNat 0).tmod n), [some ⟨true, .var [.immI .u8 c, iD (a + (1 : Int)), .int .u64 (uadd (umul h (6364136223846793005 : Int)) (1442695040888963407 : Int))]⟩], []⟩ :=
  RG ze7 [false, true] [decide (n < (1 : Int)) = false, (0 : Int) ≤ (33 : Int), inR (uand (ushr (uadd (umul h (6364136223846793005 : Int)) (1442695040888963407 : Int)) (33 : Int)) (16777215 : Int)), decide (a < (↑c.length : Int)) = true, (0 : Int) ≤ a ∧ a < (↑c.length : Int), inR (c.getD a.toNat 0), inR (uand (ushr (uadd (umul h (6364136223846793005 : Int)) (1442695040888963407 : Int)) (33 : Int)) (16777215 : Int) + c.getD a.toNat 0), inR (a + (1 : Int)), n ≠ (0 : Int)] (PA (decide_eq_false h2) (PO (PA ⟨h3, h4⟩ (PA (decide_eq_true h5) (PA ⟨h6, h5⟩ (PA ⟨h7, h8⟩ (PA ⟨h9, h10⟩ (PA ⟨(by omega), h11⟩ (PO trivial))))))))) PN LN
theorem zxz {n : Int} {c : List Int} {a h : Int} (h2 : ¬n < (1 : Int)) (h3 : (-9223372036854775808 : Int) ≤ uand (ushr (uadd (umul h (6364136223846793005 : Int)) (1442695040888963407 : Int)) (33 : Int)) (16777215 : Int)) (h4 : uand (ushr (uadd (umul h (6364136223846793005 : Int)) (1442695040888963407 : Int)) (33 : Int)) (16777215 : Int) ≤ (9223372036854775807 : Int)) (h12 : ¬a < (↑c.length : Int)) : Runs X F.z5 [.ptr 500000 0, iD n] [⟨true, .var [.immI .u8 c, iD a, .int .u64 h]⟩] ⟨iD ((uand (ushr (uadd (umul h (6364136223846793005 : Int)) (1442695040888963407 : Int)) (33 : Int)) (16777215 : Int)).tmod n), [some ⟨true, .var [.immI .u8 c, iD a, .int .u64 (uadd (umul h (6364136223846793005 : Int)) (1442695040888963407 : Int))]⟩], []⟩ :=
  RG ze7 [false, false] [decide (n < (1 : Int)) = false, (0 : Int) ≤ (33 : Int), inR (uand (ushr (uadd (umul h (6364136223846793005 : Int)) (1442695040888963407 : Int)) (33 : Int)) (16777215 : Int)), decide (a < (↑c.length : Int)) = false, n ≠ (0 : Int)] (PA (decide_eq_false h2) (PO (PA ⟨h3, h4⟩ (PA (decide_eq_false h12) (PO trivial))))) PN LN
theorem zy4 : X.ft F.z3p = some Tryz.f122 := by kernel_rfl
theorem zy5 {ys c : List Int} {a h r1 : Int} {c2 : List Int} {a3 h4 : Int} (c5 : Runs X F.z5 [.ptr 500000 0, iD (↑ys.length : Int)] [⟨true, .var [.immI .u8 c, iD a, .int .u64 h]⟩] ⟨iD r1, [some ⟨true, .var [.immI .u8 c2, iD a3, .int .u64 h4]⟩], []⟩) (h6 : (0 : Int) ≤ r1) (h7 : r1 < (↑ys.length : Int)) : Runs X F.z3p [.ptr 500000 0, .rsl 500001 0 ys.length] [⟨true, .var [.immI .u8 c, iD a, .int .u64 h]⟩, ⟨true, .ints .i64 ys⟩] ⟨iD (ys.getD (0 + r1.toNat) 0), [some ⟨true, .var [.immI .u8 c2, iD a3, .int .u64 h4]⟩, some ⟨true, .ints .i64 ys⟩], []⟩ :=
  RG zy4 [] [(0 : Int) ≤ r1 ∧ r1 < (↑ys.length : Int), 0 + r1.toNat < ys.length] (PA ⟨h6, h7⟩ (PO trivial)) (PC c5 PN) LN
theorem zyo : X.ft F.z1i = some Tryz.f129 := by kernel_rfl
def z6s (n : Int) (t4a : Nat) (r2003001a : List Int) : LSt := ⟨mkE 21 0 [(0, iD n), (2, .ptr 1002 0), (3, .ptr 1003 0), (4, iD (↑t4a : Int))], [(1002, ⟨true, .var [iD 0, .nil NK.unk]⟩), (1003, ⟨true, .var [iD n, .rsl 2003001 0 r2003001a.length]⟩), (2003001, ⟨true, .ints .i64 r2003001a⟩)]⟩
def zaf (n : Int) (r2003001az : List Int) : OutL := .exit 0 ⟨mkE 21 0 [(2, .ptr 1002 0), (3, .ptr 1003 0)], [(1002, ⟨true, .var [iD 0, .nil NK.unk]⟩), (1003, ⟨true, .var [iD n, .rsl 2003001 0 r2003001az.length]⟩), (2003001, ⟨true, .ints .i64 r2003001az⟩)]⟩
theorem zyq {Q : Out → Prop} {n : Int} {t4a : Nat} {r2003001a : List Int} (h1 : (↑t4a : Int) < n) {r2 : Int} (c3 : Runs X F.z36 [iD (↑t4a : Int)] [] (intR r2)) (h4 : r2003001a.length + 1 ≤ 1099511627776) (h5 : (↑t4a : Int) + (1 : Int) ≤ (9223372036854775807 : Int)) (hq : wq F.z1i 0 Tryz.f129 0 (z6s n (t4a + 1) (r2003001a ++ [r2])) Q) : wq F.z1i 0 Tryz.f129 0 (z6s n t4a r2003001a) Q :=
  RS [true, true, true, true] (.normal (z6s n (t4a + 1) (r2003001a ++ [r2]))) [decide ((↑t4a : Int) < n) = true, 1 ≤ 1, 0 = 0 ∧ 1 = 1, 0 + r2003001a.length = r2003001a.length ∧ r2003001a.length + 1 ≤ 1099511627776, 0 = 0 ∧ r2003001a.length = r2003001a.length, inR ((↑t4a : Int) + (1 : Int))] (PA (decide_eq_true h1) (PO (PA ⟨(by omega), (by first | omega | (simp; done) | (simp at *; omega))⟩ (PA ⟨(by first | omega | (simp; done) | (simp at *; omega)), h4⟩ (PA ⟨(by first | omega | (simp; done) | (simp at *; omega)), (by omega)⟩ (PA ⟨(by omega), h5⟩ trivial)))))) (PC c3 PN) LN hq
theorem zyr {Q : Out → Prop} {n : Int} {t4a : Nat} {r2003001a : List Int} (h6 : ¬(↑t4a : Int) < n) (hq : Q (zaf n r2003001a).out) : wq F.z1i 0 Tryz.f129 0 (z6s n t4a r2003001a) Q :=
  RS [false] (zaf n r2003001a) [decide ((↑t4a : Int) < n) = false] (PA (decide_eq_false h6) trivial) PN LN hq
theorem zyp {n : Int} {r2003001az : List Int} (l7 : wl F.z1i 0 Tryz.f129 0 (z6s n 0 []) (zaf n r2003001az)) : Runs X F.z1i [iD n] [] ⟨.agg [iD n, .rsl 600000 0 r2003001az.length], [], [⟨true, .ints .i64 r2003001az⟩]⟩ :=
  RG zyo [] [] trivial PN (LC l7 LN)
theorem zz4 : X.ft F.zaj = some Tryz.f130 := by kernel_rfl
theorem zz5 {n : Int} {xs : List Int} {x y : Int} (h1 : (0 : Int) ≤ x) (h2 : x < (↑xs.length : Int)) {r3 : Int} (c4 : Runs X F.z36 [iD y] [] (intR r3)) (h5 : (0 : Int) ≤ y) (h6 : y < (↑xs.length : Int)) {r7 : Int} (c8 : Runs X F.z36 [iD x] [] (intR r7)) : Runs X F.zaj [.agg [iD n, .rsl 500000 0 xs.length], iD x, iD y] [⟨true, .ints .i64 xs⟩] ⟨.tup [], [some ⟨true, .ints .i64 ((xs.set (0 + x.toNat) (ior (xs.getD (0 + x.toNat) 0) r3)).set (0 + y.toNat) (ior ((xs.set (0 + x.toNat) (ior (xs.getD (0 + x.toNat) 0) r3)).getD (0 + y.toNat) 0) r7))⟩], []⟩ :=
  RG zz4 [] [(0 : Int) ≤ x ∧ x < (↑xs.length : Int), 0 + x.toNat < xs.length, (0 : Int) ≤ x ∧ x < (↑xs.length : Int), 0 + x.toNat < xs.length, (0 : Int) ≤ y ∧ y < (↑xs.length : Int), 0 + y.toNat < (xs.set (0 + x.toNat) (ior (xs.getD (0 + x.toNat) 0) r3)).length, (0 : Int) ≤ y ∧ y < (↑xs.length : Int), 0 + y.toNat < (xs.set (0 + x.toNat) (ior (xs.getD (0 + x.toNat) 0) r3)).length] (PA ⟨h1, h2⟩ (PO (PA ⟨h1, h2⟩ (PO (PA ⟨h5, h6⟩ (PO (PA ⟨h5, h6⟩ (PO trivial)))))))) (PC c4 (PC c8 PN)) LN
theorem zs6 : X.ft F.z4z = some Tryz.f5 := by kernel_rfl
theorem zs7 {c : List Int} : Runs X F.z4z [.immI .u8 c] [] ⟨.bool (decide ((↑c.length : Int) > (4096 : Int))), [], []⟩ :=
  RG zs6 [] [] trivial PN LN
theorem zco : X.ft F.z1w = some Tryz.f9 := by kernel_rfl
theorem zs9 {u v : List Int} (h1 : ¬(↑u.length : Int) = (↑v.length : Int)) : Runs X F.z1w [.immI .i64 u, .immI .i64 v] [] (boolR false) :=
  RG zco [true] [((↑u.length : Int) != (↑v.length : Int)) = true] (PA (bne_iff_ne.2 h1) trivial) PN LN
def z42 (u v : List Int) (t5a : Nat) : LSt := ⟨mkE 26 0 [(0, .immI .i64 u), (1, .immI .i64 v), (5, iD (↑t5a : Int))], []⟩
def z9b : OutL := .ret ⟨mkE 26 0 [(4, .bool false)], []⟩
def z9c : OutL := .exit 0 ⟨mkE 26 0 [], []⟩
theorem zsc {Q : Out → Prop} {u v : List Int} (h2 : (↑u.length : Int) = (↑v.length : Int)) {t5a : Nat} (h3 : (↑t5a : Int) < (↑u.length : Int)) (h4 : ¬u.getD t5a 0 = v.getD t5a 0) (hq : Q (z9b).out) : wq F.z1w 0 Tryz.f9 0 (z42 u v t5a) Q :=
  RS [true, true] (z9b) [decide ((↑t5a : Int) < (↑u.length : Int)) = true, (0 : Int) ≤ (↑t5a : Int) ∧ (↑t5a : Int) < (↑u.length : Int), (0 : Int) ≤ (↑t5a : Int) ∧ (↑t5a : Int) < (↑v.length : Int), (u.getD t5a 0 != v.getD t5a 0) = true] (PA (decide_eq_true h3) (PA ⟨(by omega), h3⟩ (PA ⟨(by omega), (by omega)⟩ (PA (bne_iff_ne.2 h4) trivial)))) PN LN hq
theorem zsd {Q : Out → Prop} {u v : List Int} (h2 : (↑u.length : Int) = (↑v.length : Int)) {t5a : Nat} (h3 : (↑t5a : Int) < (↑u.length : Int)) (h5 : u.getD t5a 0 = v.getD t5a 0) (h6 : (↑t5a : Int) + (1 : Int) ≤ (9223372036854775807 : Int)) (hq : wq F.z1w 0 Tryz.f9 0 (z42 u v (t5a + 1)) Q) : wq F.z1w 0 Tryz.f9 0 (z42 u v t5a) Q :=
  RS [true, false] (.normal (z42 u v (t5a + 1))) [decide ((↑t5a : Int) < (↑u.length : Int)) = true, (0 : Int) ≤ (↑t5a : Int) ∧ (↑t5a : Int) < (↑u.length : Int), (0 : Int) ≤ (↑t5a : Int) ∧ (↑t5a : Int) < (↑v.length : Int), (u.getD t5a 0 != v.getD t5a 0) = false, inR ((↑t5a : Int) + (1 : Int))] (PA (decide_eq_true h3) (PA ⟨(by omega), h3⟩ (PA ⟨(by omega), (by omega)⟩ (PA (bne_eq_false_iff_eq.2 h5) (PA ⟨(by omega), h6⟩ trivial))))) PN LN hq
theorem zse {Q : Out → Prop} {u v : List Int} (h2 : (↑u.length : Int) = (↑v.length : Int)) {t5a : Nat} (h7 : ¬(↑t5a : Int) < (↑u.length : Int)) (hq : Q (z9c).out) : wq F.z1w 0 Tryz.f9 0 (z42 u v t5a) Q :=
  RS [false] (z9c) [decide ((↑t5a : Int) < (↑u.length : Int)) = false] (PA (decide_eq_false h7) trivial) PN LN hq
theorem zsa {u v : List Int} (h2 : (↑u.length : Int) = (↑v.length : Int)) (l8 : wl F.z1w 0 Tryz.f9 0 (z42 u v 0) z9b) : Runs X F.z1w [.immI .i64 u, .immI .i64 v] [] (boolR false) :=
  RG zco [false] [((↑u.length : Int) != (↑v.length : Int)) = false] (PA (bne_eq_false_iff_eq.2 h2) trivial) PN (LC l8 LN)
theorem zsb {u v : List Int} (h2 : (↑u.length : Int) = (↑v.length : Int)) (l9 : wl F.z1w 0 Tryz.f9 0 (z42 u v 0) z9c) : Runs X F.z1w [.immI .i64 u, .immI .i64 v] [] (boolR true) :=
  RG zco [false] [((↑u.length : Int) != (↑v.length : Int)) = false] (PA (bne_eq_false_iff_eq.2 h2) trivial) PN (LC l9 LN)
end Go.PR.S

end

section
set_option maxRecDepth 20000
namespace Go.PR.S
open Go Go.PR Go.Proofs Gp
abbrev srcRow (c : List Int) (a h : Int) : Row := ⟨true, .var [.immI .u8 c, .int .i64 a, .int .u64 h]⟩
abbrev bD (c : List Int) : D := .immI .u8 c
abbrev sp : D := .ptr 500000 0
structure Bytes (c : List Int) : Prop where
  len : c.length ≤ 4096
  rng : ∀ x ∈ c, 0 ≤ x ∧ x ≤ 255
theorem Bytes.at {c : List Int} (h : Bytes c) {i : Nat} (hi : i < c.length) : 0 ≤ c.getD i 0 ∧ c.getD i 0 ≤ 255 := by
  rw [getD_lt hi]; exact h.rng _ (List.getElem_mem hi)
theorem uand_le (x : Int) {m : Nat} (hm : m < 2 ^ 63) : 0 ≤ uand x m ∧ uand x m ≤ m := by
  unfold uand
  have h1 : (BitVec.ofInt IntKind.u64.bits x &&& BitVec.ofInt IntKind.u64.bits (m : Int)).toNat ≤ m := by
    rw [BitVec.toNat_and]
    refine Nat.le_trans Nat.and_le_right ?_
    rw [BitVec.toNat_ofInt]
    have : ((m : Int) % ((2 ^ IntKind.u64.bits : Nat) : Int)).toNat = m := by
      have : ((2 ^ IntKind.u64.bits : Nat) : Int) = 18446744073709551616 := by decide
      rw [this]; omega
    omega
  rw [IntKind.wrap_u64]
  omega
theorem tmod_bd {x n : Int} (hx : 0 ≤ x) (hn : 1 ≤ n) : 0 ≤ x.tmod n ∧ x.tmod n < n := by
  rw [Int.tmod_eq_emod_of_nonneg hx]
  exact ⟨Int.emod_nonneg _ (by omega), Int.emod_lt_of_pos _ (by omega)⟩
theorem zv4 {c : List Int} (hc : Bytes c) : ∃ h, Runs X F.z35 [bD c] [] ⟨.ptr 600000 0, [], [srcRow c 0 h]⟩ := by
  have hl := hc.len
  have key : ∀ (k i : Nat) (h : Int), i + k = c.length → ∃ h', WpL X F.z35 0 (lb Tryz.f118 0) (z6q c i h).st (fun o => o = (za8 c h').out) := by
    intro k
    induction k with
    | zero => intro i h hi; exact ⟨h, zxn (by omega) rfl⟩
    | succ k ih =>
      intro i h hi
      obtain ⟨h', hh⟩ := ih (i + 1) (uadd (uadd (umul h 1099511628211) (IntKind.wrap .u64 (c.getD i 0))) 11) (by omega)
      exact ⟨h', zxm (by omega) (by omega) hh⟩
  obtain ⟨h', hh⟩ := key c.length 0 _ (by omega)
  exact ⟨h', zxl hh⟩
theorem zp {c : List Int} (hc : Bytes c) (n a h : Int) (ha : 0 ≤ a) : ∃ r a' h', 0 ≤ a' ∧ 0 ≤ r ∧ (1 ≤ n → r < n) ∧ (n < 1 → r = 0) ∧
    Runs X F.z5 [sp, iD n] [srcRow c a h] ⟨iD r, [some (srcRow c a' h')], []⟩ := by
  have hl := hc.len
  by_cases hn : n < 1
  · exact ⟨0, a, h, ha, by omega, by omega, fun _ => rfl, zxx hn⟩
  · have hu : 0 ≤ uand (ushr (uadd (umul h 6364136223846793005) 1442695040888963407) 33) 16777215 ∧ uand (ushr (uadd (umul h 6364136223846793005) 1442695040888963407) 33) 16777215 ≤ 16777215 := uand_le _ (m := 16777215) (by omega)
    by_cases hal : a < c.length
    · have hb := hc.at (i := a.toNat) (by omega)
      have ht := tmod_bd (x := uand (ushr (uadd (umul h 6364136223846793005) 1442695040888963407) 33) 16777215 + c.getD a.toNat 0) (n := n) (by omega) (by omega)
      exact ⟨_, a + 1, _, by omega, ht.1, fun _ => ht.2, by omega, zxy hn (by omega) (by omega) hal ha (by omega) (by omega) (by omega) (by omega) (by omega)⟩
    · have ht := tmod_bd (x := uand (ushr (uadd (umul h 6364136223846793005) 1442695040888963407) 33) 16777215) (n := n) (by omega) (by omega)
      exact ⟨_, a, _, ha, ht.1, fun _ => ht.2, by omega, zxz hn (by omega) (by omega) hal⟩
theorem z6i {c : List Int} (hc : Bytes c) (ys : List Int) (hy : ys ≠ []) (a h : Int) (ha : 0 ≤ a) : ∃ r a' h', 0 ≤ a' ∧ r ∈ ys ∧
    Runs X F.z3p [sp, .rsl 500001 0 ys.length] [srcRow c a h, ⟨true, .ints .i64 ys⟩] ⟨iD r, [some (srcRow c a' h'), some ⟨true, .ints .i64 ys⟩], []⟩ := by
  have hlen : 1 ≤ (ys.length : Int) := by cases ys with | nil => exact absurd rfl hy | cons => simp; omega
  obtain ⟨r, a', h', h1, h2, h3, h4, h5⟩ := zp hc ys.length a h ha
  have h3 := h3 hlen
  refine ⟨_, a', h', h1, ?_, zy5 h5 h2 h3⟩
  rw [getD_lt (by omega)]
  exact List.getElem_mem _
theorem zux (c : List Int) : Runs X F.z4z [bD c] [] (boolR (decide ((c.length : Int) > 4096))) := zs7
theorem zvg (u v : List Int) (hu : u.length ≤ B40) : Runs X F.z1w [lD u, lD v] [] (boolR (decide (u = v))) := by
  unfold B40 at hu
  by_cases hl : u.length = v.length
  · have hlp := z50 (f := F.z1w) (b := 0) (body := lb Tryz.f9 0) (N := u.length) (oF := z9b) (oT := z9c) (st := fun i => z42 u v i)
      (p := fun i => decide (u.getD i 0 = v.getD i 0)) (fun i hi hp Q hq => ?_) (fun i hi hp Q hq => ?_) (fun Q hq => ?_)
    · have e : (List.range u.length).all (fun i => decide (u.getD i 0 = v.getD i 0)) = decide (u = v) := by
        rw [Bool.eq_iff_iff, List.all_eq_true, decide_eq_true_iff]
        constructor
        · intro h
          apply List.ext_getElem hl
          intro i h1 h2
          have := h i (List.mem_range.2 h1)
          rwa [decide_eq_true_iff, getD_lt h1, getD_lt h2] at this
        · intro h i _; rw [h]; simp
      rw [e] at hlp
      cases hd : decide (u = v) with
      | true => rw [hd] at hlp; exact zsb (by omega) hlp
      | false => rw [hd] at hlp; exact zsa (by omega) hlp
    · exact zsd (by omega) (by omega) (by simpa using hp) (by omega) hq
    · exact zsc (by omega) (by omega) (by simpa using hp) hq
    · exact zse (by omega) (by omega) hq
  · have : decide (u = v) = false := decide_eq_false fun e => hl (by rw [e])
    rw [this]
    exact zs9 (by omega)
def Msk (xs : List Int) : Prop := ∀ x ∈ xs, ∃ k : Nat, x = k ∧ k < 256
theorem Msk.at {xs : List Int} (h : Msk xs) {i : Nat} (hi : i < xs.length) : ∃ k : Nat, xs.getD i 0 = k ∧ k < 256 := by
  rw [getD_lt hi]; exact h _ (List.getElem_mem hi)
theorem Msk.set {xs : List Int} (h : Msk xs) (i : Nat) {x : Int} (hx : ∃ k : Nat, x = k ∧ k < 256) : Msk (xs.set i x) := fun y hy => by
  rcases List.mem_or_eq_of_mem_set hy with hy | rfl
  · exact h y hy
  · exact hx
theorem ior_msk {x y : Int} (hx : ∃ k : Nat, x = k ∧ k < 256) (hy : ∃ k : Nat, y = k ∧ k < 256) : ∃ k : Nat, ior x y = k ∧ k < 256 := by
  obtain ⟨a, rfl, ha⟩ := hx
  obtain ⟨b, rfl, hb⟩ := hy
  exact ⟨a ||| b, ior_nat (by omega) (by omega), Nat.or_lt_two_pow (n := 8) ha hb⟩
theorem pow_msk {i : Nat} (h : i < 8) : ∃ k : Nat, ((2 ^ i : Nat) : Int) = k ∧ k < 256 := ⟨2 ^ i, rfl, Nat.pow_lt_pow_right (n := 8) (by omega) h⟩
theorem ziv {n : Nat} (hn : n ≤ 8) : ∃ xs : List Int, xs.length = n ∧ Msk xs ∧ Runs X F.z1i [iD n] [] ⟨.agg [iD n, .rsl 600000 0 xs.length], [], [⟨true, .ints .i64 xs⟩]⟩ := by
  have key : ∀ (k i : Nat) (xs : List Int), i + k = n → xs.length = i → Msk xs → ∃ ys : List Int, ys.length = n ∧ Msk ys ∧ WpL X F.z1i 0 (lb Tryz.f129 0) (z6s n i xs).st (fun o => o = (zaf n ys).out) := by
    intro k
    induction k with
    | zero => intro i xs hi hx hm; exact ⟨xs, by omega, hm, zyr (by omega) rfl⟩
    | succ k ih =>
      intro i xs hi hx hm
      obtain ⟨ys, h1, h2, h3⟩ := ih (i + 1) (xs ++ [((2 ^ i : Nat) : Int)]) (by omega) (by simp [hx]) (fun y hy => by
        rcases List.mem_append.1 hy with hy | hy
        · exact hm y hy
        · rw [List.mem_singleton.1 hy]; exact pow_msk (by omega))
      exact ⟨ys, h1, h2, zyq (by omega) (z6h (by omega)) (by omega) (by omega) h3⟩
  obtain ⟨ys, h1, h2, h3⟩ := key n 0 [] (by omega) rfl (fun y hy => by cases hy)
  exact ⟨ys, h1, h2, zyp h3⟩
theorem zv8 {n : Int} {xs : List Int} {x y : Nat} (hx : x < xs.length) (hy : y < xs.length) (hl : xs.length ≤ 8) (hm : Msk xs) : ∃ ys : List Int, ys.length = xs.length ∧ Msk ys ∧
    Runs X F.zaj [.agg [iD n, .rsl 500000 0 xs.length], iD x, iD y] [⟨true, .ints .i64 xs⟩] ⟨.tup [], [some ⟨true, .ints .i64 ys⟩], []⟩ := by
  refine ⟨_, ?_, ?_, zz5 (by omega) (by omega) (z6h (i := y) (by omega)) (by omega) (by omega) (z6h (i := x) (by omega))⟩
  · simp
  · have h1 : Msk (xs.set (0 + (x : Int).toNat) (ior (xs.getD (0 + (x : Int).toNat) 0) ((2 ^ y : Nat) : Int))) := hm.set _ (ior_msk (hm.at (by omega)) (pow_msk (by omega)))
    exact h1.set _ (ior_msk (h1.at (by rw [List.length_set]; omega)) (pow_msk (by omega)))
end Go.PR.S

end
