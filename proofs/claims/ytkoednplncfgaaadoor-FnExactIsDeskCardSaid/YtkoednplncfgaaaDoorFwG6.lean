/- Path lemmas (written by Vc.lean). -/
import Derived.Test.YtkoednplncfgaaaDoorFwMk
/- Path lemmas (written by Vc.lean). -/
set_option linter.unusedVariables false
set_option linter.unusedSimpArgs false
set_option maxRecDepth 20000
open Go Go.PR Go.Proofs Go.PR.S
namespace Go.PR.S
-- loop.example/g01094/spec.l11Over
theorem spec_l11Over_ft : X.ft F.spec_l11Over = some Tryd.f73 := by kernel_rfl
theorem spec_l11Over_p1_e (m : Int) (d : List Int) (n s f : Int) (xss : List (List Int)) (b1 : Bool) : fnV X F.spec_l11Over Tryd.f73 [alD m d, auD n s f xss] [] ⟨[true, true, true, true, true], [(boolR b1)], []⟩ = .ok (⟨iD 1, [], []⟩) ⟨[], [], []⟩ ⟨[(!b1) = true, (!b1) = true, (!b1) = true, (!b1) = true, true = true], [⟨F.spec_l02Is, [alD m d], [], (boolR b1)⟩], []⟩ := by kernel_rfl
theorem spec_l11Over_p1 {m : Int} {d : List Int} {n s f : Int} {xss : List (List Int)} {b1 : Bool} (c2 : Runs X F.spec_l02Is [alD m d] [] (boolR b1)) (h3 : b1 = false) : Runs X F.spec_l11Over [alD m d, auD n s f xss] [] ⟨iD 1, [], []⟩ :=
  Runs.path (by kernel_rfl) spec_l11Over_ft (spec_l11Over_p1_e m d n s f xss b1) (AllP.c (not_t h3) (AllP.c (not_t h3) (AllP.c (not_t h3) (AllP.c (not_t h3) (AllP.c rfl trivial))))) (AllC.c c2 trivial) trivial
theorem spec_l11Over_p2_e (m : Int) (d : List Int) (n s f : Int) (xss : List (List Int)) (b1 b5 : Bool) : fnV X F.spec_l11Over Tryd.f73 [alD m d, auD n s f xss] [] ⟨[false, false, false, false, true], [(boolR b1), (boolR b5)], []⟩ = .ok (⟨iD 1, [], []⟩) ⟨[], [], []⟩ ⟨[(!b1) = false, (!b1) = false, (!b1) = false, (!b1) = false, (!b5) = true], [⟨F.spec_l02Is, [alD m d], [], (boolR b1)⟩, ⟨F.spec_l11Is, [auD n s f xss], [], (boolR b5)⟩], []⟩ := by kernel_rfl
theorem spec_l11Over_p2 {m : Int} {d : List Int} {n s f : Int} {xss : List (List Int)} {b1 : Bool} (c2 : Runs X F.spec_l02Is [alD m d] [] (boolR b1)) (h4 : b1 = true) {b5 : Bool} (c6 : Runs X F.spec_l11Is [auD n s f xss] [] (boolR b5)) (h7 : b5 = false) : Runs X F.spec_l11Over [alD m d, auD n s f xss] [] ⟨iD 1, [], []⟩ :=
  Runs.path (by kernel_rfl) spec_l11Over_ft (spec_l11Over_p2_e m d n s f xss b1 b5) (AllP.c (not_f h4) (AllP.c (not_f h4) (AllP.c (not_f h4) (AllP.c (not_f h4) (AllP.c (not_t h7) trivial))))) (AllC.c c2 (AllC.c c6 trivial)) trivial
theorem spec_l11Over_p3_e (m : Int) (d : List Int) (n s f : Int) (xss : List (List Int)) (b1 b5 : Bool) : fnV X F.spec_l11Over Tryd.f73 [alD m d, auD n s f xss] [] ⟨[false, false, false, false, false, true], [(boolR b1), (boolR b5)], []⟩ = .ok (⟨iD 2, [], []⟩) ⟨[], [], []⟩ ⟨[(!b1) = false, (!b1) = false, (!b1) = false, (!b1) = false, (!b5) = false, (n != m) = true], [⟨F.spec_l02Is, [alD m d], [], (boolR b1)⟩, ⟨F.spec_l11Is, [auD n s f xss], [], (boolR b5)⟩], []⟩ := by kernel_rfl
theorem spec_l11Over_p3 {m : Int} {d : List Int} {n s f : Int} {xss : List (List Int)} {b1 : Bool} (c2 : Runs X F.spec_l02Is [alD m d] [] (boolR b1)) (h4 : b1 = true) {b5 : Bool} (c6 : Runs X F.spec_l11Is [auD n s f xss] [] (boolR b5)) (h8 : b5 = true) (h9 : ¬n = m) : Runs X F.spec_l11Over [alD m d, auD n s f xss] [] ⟨iD 2, [], []⟩ :=
  Runs.path (by kernel_rfl) spec_l11Over_ft (spec_l11Over_p3_e m d n s f xss b1 b5) (AllP.c (not_f h4) (AllP.c (not_f h4) (AllP.c (not_f h4) (AllP.c (not_f h4) (AllP.c (not_f h8) (AllP.c (bne_iff_ne.2 h9) trivial)))))) (AllC.c c2 (AllC.c c6 trivial)) trivial
theorem spec_l11Over_p4_e (m : Int) (d : List Int) (n s f : Int) (xss : List (List Int)) (b1 b5 : Bool) : fnV X F.spec_l11Over Tryd.f73 [alD m d, auD n s f xss] [] ⟨[false, false, false, false, false, false], [(boolR b1), (boolR b5)], []⟩ = .ok (⟨iD 0, [], []⟩) ⟨[], [], []⟩ ⟨[(!b1) = false, (!b1) = false, (!b1) = false, (!b1) = false, (!b5) = false, (n != m) = false], [⟨F.spec_l02Is, [alD m d], [], (boolR b1)⟩, ⟨F.spec_l11Is, [auD n s f xss], [], (boolR b5)⟩], []⟩ := by kernel_rfl
theorem spec_l11Over_p4 {m : Int} {d : List Int} {n s f : Int} {xss : List (List Int)} {b1 : Bool} (c2 : Runs X F.spec_l02Is [alD m d] [] (boolR b1)) (h4 : b1 = true) {b5 : Bool} (c6 : Runs X F.spec_l11Is [auD n s f xss] [] (boolR b5)) (h8 : b5 = true) (h10 : n = m) : Runs X F.spec_l11Over [alD m d, auD n s f xss] [] ⟨iD 0, [], []⟩ :=
  Runs.path (by kernel_rfl) spec_l11Over_ft (spec_l11Over_p4_e m d n s f xss b1 b5) (AllP.c (not_f h4) (AllP.c (not_f h4) (AllP.c (not_f h4) (AllP.c (not_f h4) (AllP.c (not_f h8) (AllP.c (bne_eq_false_iff_eq.2 h10) trivial)))))) (AllC.c c2 (AllC.c c6 trivial)) trivial
-- loop.example/g01094/spec.l11Read
-- loop.example/g01094/spec.l11Fault
-- loop.example/g01094/spec.l19Code
-- loop.example/g01094/spec.l19Persistent
-- loop.example/g01094/spec.IsPersistent
end Go.PR.S
