/- The smallest source set, IsSource, and their laws. -/
import Derived.Test.YtkoednplncfgaaaDoorFwP20
import Derived.Test.YtkoednplncfgaaaDoorFwG15
import Derived.Test.YtkoednplncfgaaaDoorFwG16
import Derived.Test.YtkoednplncfgaaaDoorFwG17
/- The smallest source set, IsSource, and their laws. -/
set_option linter.unusedVariables false
set_option linter.unusedSimpArgs false
set_option maxRecDepth 20000
namespace Go.PR.S
open Go Go.PR Go.Proofs Gp

section
variable {m n s f : Int} {d : List Int} {N : List (List Int)}

open Classical in
noncomputable def sB (d : List Int) (N : List (List Int)) (q E : Nat) : Bool := decide (Src d N E q)

open Classical in
theorem sB_iff {q E : Nat} : sB d N q E = true ↔ Src d N E q := by
  unfold sB; rw [decide_eq_true_eq]

theorem run_l19Src (h : Ov m d n s f N) {E q : Nat} (hq : q < N.length) (hE : E < 2 ^ d.length) : Runs X F.spec_l19Source [alD m d, auD n s f N, iD q, iD E] [] (boolR (sB d N q E)) := by
  obtain ⟨b, r, i⟩ := run_l19Source h hq hE
  have : b = sB d N q E := by rw [Bool.eq_iff_iff, i, sB_iff]
  rw [← this]; exact r

theorem run_isSrc {fs : List Bool} (h : Ov m d n s f N) (hEn : endsB N = true) {E q : Nat} (hq : q < N.length) (hE : E < 2 ^ d.length) : Runs X F.impl_machine_isSource [maD n s fs N, alD m d, iD q, iD E] [] (boolR (sB d N q E)) := by
  obtain ⟨b, r, i⟩ := run_isSource (fs := fs) h hEn hq hE
  have : b = sB d N q E := by rw [Bool.eq_iff_iff, i, sB_iff]
  rw [← this]; exact r

end

theorem run_IsSource (m : Int) (d : List Int) (n s f : Int) (N : List (List Int)) (q e : Int) (hd : d.length ≤ B40) (hl : N.length ≤ B40) (hw : ∀ r ∈ N, r.length ≤ B40) :
    ∃ (a : Bool) (b : Int), Runs X F.spec_IsSource [alD m d, auD n s f N, iD q, iD e] [] ⟨.tup [.bool a, .int .i64 b], [], []⟩ ∧ Runs X F.impl_IsSource [alD m d, auD n s f N, iD q, iD e] [] ⟨.tup [.bool a, .int .i64 b], [], []⟩ := by
  have c1 := run_l19Code m d n s f N q e hd hl
  have c2 := run_checkState m d n s f N q e hd hl hw
  by_cases h0 : stCode m d n s f N q e = 0
  · rw [h0] at c1
    rw [if_pos h0] at c2
    obtain ⟨h, ⟨q0, q1, e0, e1⟩, _, _, hEn⟩ := stCode_zero h0
    obtain ⟨q, rfl⟩ : ∃ k : Nat, q = k := ⟨q.toNat, by omega⟩
    obtain ⟨E, rfl⟩ : ∃ k : Nat, e = k := ⟨e.toNat, by omega⟩
    have hE : E < 2 ^ d.length := by omega
    exact ⟨_, 0, spec_IsSource_p2 c1 rfl (run_l19Src h (by omega) hE), impl_IsSource_p4 c2 rfl (run_isSrc h hEn (by omega) hE)⟩
  · rw [if_neg h0] at c2
    exact ⟨false, _, spec_IsSource_p1 c1 h0, impl_IsSource_p1 c2 h0⟩

theorem run_FnExactIsSource (m : Int) (d : List Int) (n s f : Int) (N : List (List Int)) (q e : Int) (hd : d.length ≤ L63) (hx : N.length ≤ L63) (hw : ∀ xs ∈ N, xs.length ≤ L63) : Runs X F.laws_FnExactIsSource [alD m d, auD n s f N, iD q, iD e] [] (boolR true) := by
  have c1 := run_szAlphabet m d hd
  by_cases hdl : d.length ≤ B40
  · rw [if_pos hdl] at c1
    have hdl' := hdl
    unfold B40 at hdl'
    obtain ⟨r, c2, _, hr⟩ := run_szAutomaton n s f N (1048576 - d.length) (by omega) (by unfold B40; omega) hx hw
    rcases hr with hr | ⟨hr, hl, hw⟩
    · exact laws_FnExactIsSource_p2 c1 (by omega) c2 hr
    · obtain ⟨a, b, cs, ci⟩ := run_IsSource m d n s f N q e hdl hl hw
      have ca := run_toAutomaton n s f N hl hw
      have cl := run_toAlphabet m d hdl
      have ce := run_eqAutomaton n s f N hl hw
      have cd := run_eqAlphabet m d hdl
      apply laws_FnExactIsSource_p7
      all_goals first | exact c1 | exact c2 | exact cs | exact ci | exact ca | exact cl | exact ce | exact cd | omega | rfl
  · rw [if_neg hdl] at c1
    exact laws_FnExactIsSource_p1 c1 (by omega)

end Go.PR.S
