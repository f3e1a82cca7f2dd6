/- Path lemmas (written by Vc.lean). -/
import Derived.Test.YtnhklcbddcoadaaGreatDoorFwMk
set_option linter.unusedVariables false
set_option linter.unusedSimpArgs false
set_option linter.unusedSectionVars false
set_option maxRecDepth 20000
open Go Go.PR Go.Proofs Go.PR.S
namespace Go.PR.S
theorem zpj : X.ft F.z3i = some Tryz.f12 := by kernel_rfl
theorem zhu {n : Int} {d u v : List Int} {r1 : Int} (c2 : Runs X F.zd [alD n d,.imm2 .i64 ([u] ++ [v])] [] (intR r1)) (h4 : r1 = 0) {xs5 : List Int} (c6 : Runs X F.ze [alD n d] [] (rowR xs5)) {xs7 : List Int} (c8 : Runs X F.z6 [.immI .i64 u] [] (rowR xs7)) {xs9 : List Int} (c10 : Runs X F.z6 [.immI .i64 v] [] (rowR xs9)) {xs11 : List Int} (c12 : Runs X F.zm [.imm2 .i64 ([xs7] ++ [xs9])] [] (rowR xs11)) {xs13 : List Int} (c14 : Runs X F.zk [.immI .i64 xs5,.immI .i64 xs11] [] (rowR xs13)) {xs15 : List Int} {r16 : Int} (c17 : Runs X F.z4i [.immI .i64 xs13] [] ⟨.tup [.rsl 600000 0 xs15.length,iD r16],[],[⟨true,.ints .i64 xs15⟩]⟩) : Runs X F.z3i [alD n d,.immI .i64 u,.immI .i64 v] [] ⟨.tup [.rsl 600000 0 xs15.length,iD r16],[],[⟨true,.ints .i64 xs15⟩]⟩ :=
 RG zpj [true,false,true,true,true,true,true,true] [2 <= ([u] ++ [v]).length,0 = 0 /\ 2 = ([u] ++ [v]).length,(r1 != 0) = false,0 + xs7.length <= xs7.length,0 = 0 /\ xs7.length = xs7.length,0 + xs9.length <= xs9.length,0 = 0 /\ xs9.length = xs9.length,2 <= ([xs7] ++ [xs9]).length,0 = 0 /\ 2 = ([xs7] ++ [xs9]).length,0 + xs5.length <= xs5.length,0 = 0 /\ xs5.length = xs5.length,0 + xs11.length <= xs11.length,0 = 0 /\ xs11.length = xs11.length,0 + xs13.length <= xs13.length,0 = 0 /\ xs13.length = xs13.length] (PO (PA ⟨(by omega),(by first|omega|simp)⟩ (PA (bne_eq_false_iff_eq.2 h4) (PO (PA ⟨(by first|omega|simp),(by omega)⟩ (PO (PA ⟨(by first|omega|simp),(by omega)⟩ (PO (PA ⟨(by omega),(by first|omega|simp)⟩ (PO (PA ⟨(by first|omega|simp),(by omega)⟩ (PO (PA ⟨(by first|omega|simp),(by omega)⟩ (PO (PA ⟨(by first|omega|simp),(by omega)⟩ trivial))))))))))))))) (PC c2 (PC c6 (PC c8 (PC c10 (PC c12 (PC c14 (PC c17 PN))))))) LN
end Go.PR.S
