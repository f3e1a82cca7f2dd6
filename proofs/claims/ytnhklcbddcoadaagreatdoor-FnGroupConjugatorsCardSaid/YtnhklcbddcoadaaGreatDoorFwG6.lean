/- Path lemmas (written by Vc.lean). -/
import Derived.Test.YtnhklcbddcoadaaGreatDoorFwMk
set_option linter.unusedVariables false
set_option linter.unusedSimpArgs false
set_option linter.unusedSectionVars false
section
set_option maxRecDepth 20000
open Go Go.PR Go.Proofs Go.PR.S
namespace Go.PR.S
end Go.PR.S

end

section
set_option maxRecDepth 20000
open Go Go.PR Go.Proofs Go.PR.S
namespace Go.PR.S
theorem zph : X.ft F.z6k = some Tryz.f11 := by kernel_rfl
theorem zpi {n : Int} {d w : List Int} {r1 : Int} (c2 : Runs X F.zd [alD n d,.imm2 .i64 [w]] [] (intR r1)) (h4 : r1 = 0) {xs5 : List Int} (c6 : Runs X F.ze [alD n d] [] (rowR xs5)) {xs7 : List Int} (c8 : Runs X F.z6 [.immI .i64 w] [] (rowR xs7)) {xs9 : List Int} (c10 : Runs X F.z33 [.immI .i64 xs7] [] (rowR xs9)) {xs11 : List Int} (c12 : Runs X F.zk [.immI .i64 xs5,.immI .i64 xs9] [] (rowR xs11)) {xs13 : List Int} {r14 : Int} (c15 : Runs X F.z4i [.immI .i64 xs11] [] ⟨.tup [.rsl 600000 0 xs13.length,iD r14],[],[⟨true,.ints .i64 xs13⟩]⟩) : Runs X F.z6k [alD n d,.immI .i64 w] [] ⟨.tup [.rsl 600000 0 xs13.length,iD r14],[],[⟨true,.ints .i64 xs13⟩]⟩ :=
 RG zph [true,false,true,true,true,true] [1 <= 1,0 = 0 /\ 1 = 1,(r1 != (0 : Int)) = false,0 + xs7.length <= xs7.length,0 = 0 /\ xs7.length = xs7.length,0 + xs5.length <= xs5.length,0 = 0 /\ xs5.length = xs5.length,0 + xs9.length <= xs9.length,0 = 0 /\ xs9.length = xs9.length,0 + xs11.length <= xs11.length,0 = 0 /\ xs11.length = xs11.length] (PO (PA ⟨(by omega),(by first|omega|simp)⟩ (PA (bne_eq_false_iff_eq.2 h4) (PO (PA ⟨(by first|omega|simp),(by omega)⟩ (PO (PA ⟨(by first|omega|simp),(by omega)⟩ (PO (PA ⟨(by first|omega|simp),(by omega)⟩ (PO (PA ⟨(by first|omega|simp),(by omega)⟩ trivial))))))))))) (PC c2 (PC c6 (PC c8 (PC c10 (PC c12 (PC c15 PN)))))) LN
end Go.PR.S

end
