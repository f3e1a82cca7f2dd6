/- Path lemmas (written by Vc.lean). -/
import Derived.Test.YtmjbhacjgjihpaaDoorFwMk
set_option linter.unusedVariables false
set_option linter.unusedSimpArgs false
set_option linter.unusedSectionVars false
set_option maxRecDepth 20000
open Go Go.PR Go.Proofs Go.PR.S
namespace Go.PR.S
theorem zdg : X.ft F.zo = some Tryd.f43 := by kernel_rfl
theorem znb {a b c : Int} (h1 : a ≥ b) : Runs X F.zo [iD a, iD b, iD c] [] ⟨.bool (decide (a ≤ c)), [], []⟩ :=
  RG zdg [true, true, true, true] [decide (a ≥ b) = true, decide (a ≥ b) = true, decide (a ≥ b) = true, decide (a ≥ b) = true] (PA (decide_eq_true h1) (PA (decide_eq_true h1) (PA (decide_eq_true h1) (PA (decide_eq_true h1) trivial)))) PN LN
theorem znc {a b c : Int} (h2 : ¬a ≥ b) : Runs X F.zo [iD a, iD b, iD c] [] (boolR false) :=
  RG zdg [false, false, false, false] [decide (a ≥ b) = false, decide (a ≥ b) = false, decide (a ≥ b) = false, decide (a ≥ b) = false] (PA (decide_eq_false h2) (PA (decide_eq_false h2) (PA (decide_eq_false h2) (PA (decide_eq_false h2) trivial)))) PN LN
theorem zn9 : X.ft F.z2r = some Tryd.f42 := by kernel_rfl
theorem zna {a r1 : Int} (c2 : Runs X F.z5c [iD a] [] (intR r1)) (h3 : (-9223372036854775808 : Int) ≤ r1 - (1 : Int)) (h4 : r1 - (1 : Int) ≤ (9223372036854775807 : Int)) : Runs X F.z2r [iD a] [] ⟨iD (r1 - (1 : Int)), [], []⟩ :=
  RG zn9 [] [inR (r1 - (1 : Int))] (PA ⟨h3, h4⟩ trivial) (PC c2 PN) LN
theorem zni : X.ft F.z5c = some Tryd.f65 := by kernel_rfl
theorem znj {a : Int} (h1 : (0 : Int) ≤ IntKind.u64.wrap a) (h2 : (-9223372036854775808 : Int) ≤ ishl (1 : Int) (IntKind.u64.wrap a)) (h3 : ishl (1 : Int) (IntKind.u64.wrap a) ≤ (9223372036854775807 : Int)) : Runs X F.z5c [iD a] [] ⟨iD (ishl (1 : Int) (IntKind.u64.wrap a)), [], []⟩ :=
  RG zni [] [(0 : Int) ≤ IntKind.u64.wrap a, inR (ishl (1 : Int) (IntKind.u64.wrap a))] (PA h1 (PA ⟨h2, h3⟩ trivial)) PN LN
theorem zn7 : X.ft F.z1s = some Tryd.f89 := by kernel_rfl
theorem zn8 {a b : Int} (h1 : (0 : Int) ≤ IntKind.u64.wrap b) : Runs X F.z1s [iD a, iD b] [] ⟨.bool (iand (ishr a (IntKind.u64.wrap b)) (1 : Int) == (1 : Int)), [], []⟩ :=
  RG zn7 [] [(0 : Int) ≤ IntKind.u64.wrap b] (PA h1 trivial) PN LN
theorem zb8 : X.ft F.z18 = some Tryd.f72 := by kernel_rfl
theorem zhf {a b c : Int} (h1 : b ≤ a) : Runs X F.z18 [iD a, iD b, iD c] [] ⟨.bool (decide (a ≤ c)), [], []⟩ :=
  RG zb8 [true, true, true, true] [decide (b ≤ a) = true, decide (b ≤ a) = true, decide (b ≤ a) = true, decide (b ≤ a) = true] (PA (decide_eq_true h1) (PA (decide_eq_true h1) (PA (decide_eq_true h1) (PA (decide_eq_true h1) trivial)))) PN LN
theorem zhg {a b c : Int} (h2 : ¬b ≤ a) : Runs X F.z18 [iD a, iD b, iD c] [] (boolR false) :=
  RG zb8 [false, false, false, false] [decide (b ≤ a) = false, decide (b ≤ a) = false, decide (b ≤ a) = false, decide (b ≤ a) = false] (PA (decide_eq_false h2) (PA (decide_eq_false h2) (PA (decide_eq_false h2) (PA (decide_eq_false h2) trivial)))) PN LN
theorem zhx : X.ft F.z52 = some Tryd.f74 := by kernel_rfl
theorem zhy {a : Int} (h1 : (0 : Int) ≤ a) (h2 : (-9223372036854775808 : Int) ≤ ishl (1 : Int) a) (h3 : ishl (1 : Int) a ≤ (9223372036854775807 : Int)) : Runs X F.z52 [iD a] [] ⟨iD (ishl (1 : Int) a), [], []⟩ :=
  RG zhx [] [(0 : Int) ≤ a, inR (ishl (1 : Int) a)] (PA h1 (PA ⟨h2, h3⟩ trivial)) PN LN
theorem zgy : X.ft F.z24 = some Tryd.f69 := by kernel_rfl
theorem zb2 {xs : List Int} {a b : Int} {b1 : Bool} (c2 : Runs X F.z94 [.immI .i64 xs, .fn F.z1j [.pim [iD a], .pim [iD b]]] [] (boolR b1)) : Runs X F.z24 [.immI .i64 xs, iD a, iD b] [] ⟨.bool !b1, [], []⟩ :=
  RG zgy [] [] trivial (PC c2 PN) LN
theorem zhu : X.ft F.z1z = some Tryd.f83 := by kernel_rfl
def z4a (t0a : Int) (r3a : List Int) : LSt := ⟨mkE 17 0 [(0, iD t0a), (3, .rsl 3 0 r3a.length)], [(3, ⟨true, .ints .i64 r3a⟩)]⟩
def z5q (r3az : List Int) : OutL := .exit 0 ⟨mkE 17 0 [(3, .rsl 3 0 r3az.length)], [(3, ⟨true, .ints .i64 r3az⟩)]⟩
theorem zhw {Q : Out → Prop} {t0a : Int} {r3a : List Int} (h1 : ¬t0a = 0) {k2 : Int} (c3 : Runs X F.z4x [.int .u64 (IntKind.u64.wrap t0a)] [] (intR k2)) (h4 : r3a.length + 1 ≤ 1099511627776) (h5 : (-9223372036854775808 : Int) ≤ t0a - (1 : Int)) (h6 : t0a - (1 : Int) ≤ (9223372036854775807 : Int)) (hq : wq F.z1z 0 Tryd.f83 0 (z4a (iand t0a (t0a - (1 : Int))) (r3a ++ [k2])) Q) : wq F.z1z 0 Tryd.f83 0 (z4a t0a r3a) Q :=
  RS [true, true, true, true] (.normal (z4a (iand t0a (t0a - (1 : Int))) (r3a ++ [k2]))) [(t0a != (0 : Int)) = true, 1 ≤ 1, 0 = 0 ∧ 1 = 1, 0 + r3a.length = r3a.length ∧ r3a.length + 1 ≤ 1099511627776, 0 = 0 ∧ r3a.length = r3a.length, inR (t0a - (1 : Int))] (PA (bne_iff_ne.2 h1) (PO (PA ⟨(by omega), (by first | omega | (simp; done) | (simp at *; omega))⟩ (PA ⟨(by first | omega | (simp; done) | (simp at *; omega)), h4⟩ (PA ⟨(by first | omega | (simp; done) | (simp at *; omega)), (by omega)⟩ (PA ⟨h5, h6⟩ trivial)))))) (PC (Runs.path (by kernel_rfl) (by kernel_rfl) (show fnV X F.zhn Tryd.f137 [iD t0a] [] ⟨[], [(intR k2)], []⟩ = .ok ((intR k2)) ⟨[], [], []⟩ ⟨[], [⟨F.z4x, [.int .u64 (IntKind.u64.wrap t0a)], [], (intR k2)⟩], []⟩ by kernel_rfl) trivial (AllC.c c3 trivial) trivial) PN) LN hq
theorem zb9 {Q : Out → Prop} {t0a : Int} {r3a : List Int} (h7 : t0a = 0) (hq : Q (z5q r3a).out) : wq F.z1z 0 Tryd.f83 0 (z4a t0a r3a) Q :=
  RS [false] (z5q r3a) [(t0a != (0 : Int)) = false] (PA (bne_eq_false_iff_eq.2 h7) trivial) PN LN hq
theorem zhv {a : Int} {r3az : List Int} (l8 : wl F.z1z 0 Tryd.f83 0 (z4a a []) (z5q r3az)) : Runs X F.z1z [iD a] [] (rowR r3az) :=
  RG zhu [] [] trivial PN (LC l8 LN)
end Go.PR.S
