/- Path lemmas (written by Vc.lean). -/
import Derived.Test.YtkoednplncfgaaaDoorFwMk
import Derived.Test.YtkoednplncfgaaaDoorFwP16
import Derived.Test.YtkoednplncfgaaaDoorFwP47
set_option linter.unusedVariables false
set_option linter.unusedSimpArgs false
section
set_option maxRecDepth 20000
open Go Go.PR Go.Proofs Go.PR.S
namespace Go.PR.S
theorem zbn : X.ft F.z75 = some Tryd.f11 := by kernel_rfl
theorem zp7 {m : Int} {d : List Int} {n s f : Int} {xss : List (List Int)} {r1 : Int} (c2 : Runs X F.z53 [alD m d, iD 1048576] [] (intR r1)) (h3 : r1 < (0 : Int)) : Runs X F.z75 [alD m d, auD n s f xss] [] (boolR true) :=
  RG zbn [true] [decide (r1 < (0 : Int)) = true] (PA (decide_eq_true h3) trivial) (PC c2 PN) LN
theorem zp9 {m : Int} {d : List Int} {n s f : Int} {xss : List (List Int)} {r1 : Int} (c2 : Runs X F.z53 [alD m d, iD 1048576] [] (intR r1)) (h4 : ¬r1 < (0 : Int)) {r5 : Int} (c6 : Runs X F.z64 [auD n s f xss, iD r1] [] (intR r5)) (h7 : r5 < (0 : Int)) : Runs X F.z75 [alD m d, auD n s f xss] [] (boolR true) :=
  RG zbn [false, true] [decide (r1 < (0 : Int)) = false, decide (r5 < (0 : Int)) = true] (PA (decide_eq_false h4) (PA (decide_eq_true h7) trivial)) (PC c2 (PC c6 PN)) LN
theorem zp8 {m : Int} {d : List Int} {n s f : Int} {xss : List (List Int)} {r1 : Int} (c2 : Runs X F.z53 [alD m d, iD 1048576] [] (intR r1)) (h4 : ¬r1 < (0 : Int)) {r5 : Int} (c6 : Runs X F.z64 [auD n s f xss, iD r1] [] (intR r5)) (h8 : ¬r5 < (0 : Int)) {n9 : Int} {xs10 : List Int} (c11 : Runs X F.z54 [alD m d] [] ⟨.agg [iD n9, .rsl 600000 0 xs10.length], [], [⟨true, .ints .i64 xs10⟩]⟩) {n12 s13 f14 : Int} {xss15 : List (List Int)} (c16 : Runs X F.z55 [auD n s f xss] [] ⟨.agg [iD n12, iD s13, iD f14, .nsl 600000 xss15.length], [], [⟨true, .nest .i64 xss15⟩]⟩) {ws17 : List (List Int)} {b18 c19 : Int} (c20 : Runs X F.zcy [alD n9 xs10, auD n12 s13 f14 xss15] [] ⟨.tup [.nsl 600000 ws17.length, iD b18, iD c19], [], [⟨true, .nest .i64 ws17⟩]⟩) {n21 : Int} {xs22 : List Int} (c23 : Runs X F.z54 [alD m d] [] ⟨.agg [iD n21, .rsl 600000 0 xs22.length], [], [⟨true, .ints .i64 xs22⟩]⟩) {n24 s25 f26 : Int} {xss27 : List (List Int)} (c28 : Runs X F.z55 [auD n s f xss] [] ⟨.agg [iD n24, iD s25, iD f26, .nsl 600000 xss27.length], [], [⟨true, .nest .i64 xss27⟩]⟩) {ws29 : List (List Int)} {b30 c31 : Int} (c32 : Runs X F.z7w [alD n21 xs22, auD n24 s25 f26 xss27] [] ⟨.tup [.nsl 600000 ws29.length, iD b30, iD c31], [], [⟨true, .nest .i64 ws29⟩]⟩) {b33 : Bool} (c34 : Runs X F.z2d [.imm2 .i64 ws29, .imm2 .i64 ws17] [] (boolR b33)) (h36 : b33 = true) (h38 : b30 = b18) (h40 : c31 = c19) {n41 : Int} {xs42 : List Int} (c43 : Runs X F.z54 [alD m d] [] ⟨.agg [iD n41, .rsl 600000 0 xs42.length], [], [⟨true, .ints .i64 xs42⟩]⟩) {b44 : Bool} (c45 : Runs X F.z8p [alD n21 xs22, alD n41 xs42] [] (boolR b44)) (h47 : b44 = true) {n48 s49 f50 : Int} {xss51 : List (List Int)} (c52 : Runs X F.z55 [auD n s f xss] [] ⟨.agg [iD n48, iD s49, iD f50, .nsl 600000 xss51.length], [], [⟨true, .nest .i64 xss51⟩]⟩) {b53 : Bool} (c54 : Runs X F.z8q [auD n24 s25 f26 xss27, auD n48 s49 f50 xss51] [] (boolR b53)) (h56 : b53 = true) {r57 : Int} {xs58 : List Int} (c59 : Runs X F.z8v [.agg [iD n21, .rsl 500000 0 xs22.length], iD 1] [⟨true, .ints .i64 xs22⟩] ⟨iD r57, [some ⟨true, .ints .i64 xs58⟩], []⟩) {r60 : Int} (c61 : Runs X F.z8w [.agg [iD n24, iD s25, iD f26, .nsl 500000 xss27.length], iD r57] [⟨true, .nest .i64 xss27⟩] ⟨iD r60, [none], []⟩) (h63 : ¬r60 < (0 : Int)) {b64 : Bool} (c65 : Runs X F.z2d [.imm2 .i64 ws29, .imm2 .i64 ws17] [] (boolR b64)) (h67 : b64 = true) {r68 : Int} {xss69 : List (List Int)} (c70 : Runs X F.z34 [.nsl 500000 ws29.length, iD 1] [⟨true, .nest .i64 ws29⟩] ⟨iD r68, [some ⟨true, .nest .i64 xss69⟩], []⟩) (h71 : ws29.length = xss69.length) {r72 : Int} (c73 : Runs X F.z33 [.imm2 .i64 xss69, iD 1] [] (intR r72)) (h75 : ¬r72 < (0 : Int)) (h77 : r72 = r68) {n78 : Int} {xs79 : List Int} (c80 : Runs X F.z54 [alD m d] [] ⟨.agg [iD n78, .rsl 600000 0 xs79.length], [], [⟨true, .ints .i64 xs79⟩]⟩) {n81 s82 f83 : Int} {xss84 : List (List Int)} (c85 : Runs X F.z55 [auD n s f xss] [] ⟨.agg [iD n81, iD s82, iD f83, .nsl 600000 xss84.length], [], [⟨true, .nest .i64 xss84⟩]⟩) {ws86 : List (List Int)} {b87 c88 : Int} (c89 : Runs X F.z7w [alD n78 xs79, auD n81 s82 f83 xss84] [] ⟨.tup [.nsl 600000 ws86.length, iD b87, iD c88], [], [⟨true, .nest .i64 ws86⟩]⟩) {b90 : Bool} (c91 : Runs X F.z2d [.imm2 .i64 ws86, .imm2 .i64 ws17] [] (boolR b90)) (h93 : b90 = true) (h95 : b87 = b18) (h97 : c88 = c19) {r98 : Int} (c99 : Runs X F.z33 [.imm2 .i64 xss69, iD 1] [] (intR r98)) (h101 : ¬r98 < (0 : Int)) (h103 : r98 = r68) : Runs X F.z75 [alD m d, auD n s f xss] [] (boolR true) :=
  RG zbn [false, false, true, true, false, false, false, false, false, false, false, false, false, true, true, false, false, false, false, false, false, false, false, false, false, false, false, false, false, false, false, false, false, true, false, false, false, false, false, false, false, false, false, false, false] [decide (r1 < (0 : Int)) = false, decide (r5 < (0 : Int)) = false, 0 + xs10.length ≤ xs10.length, 0 = 0 ∧ xs10.length = xs10.length, xss15.length = xss15.length, 0 + xs22.length ≤ xs22.length, 0 = 0 ∧ xs22.length = xs22.length, xss27.length = xss27.length, ws29.length = ws29.length, ws17.length = ws17.length, (!b33) = false, (!b33) = false, (!b33) = false, (!b33) = false, (b30 != b18) = false, (b30 != b18) = false, (b30 != b18) = false, (b30 != b18) = false, (c31 != c19) = false, 0 + xs22.length ≤ xs22.length, 0 = 0 ∧ xs22.length = xs22.length, 0 + xs42.length ≤ xs42.length, 0 = 0 ∧ xs42.length = xs42.length, (!b44) = false, xss27.length = xss27.length, xss51.length = xss51.length, (!b53) = false, decide (r60 < (0 : Int)) = false, decide (r60 < (0 : Int)) = false, decide (r60 < (0 : Int)) = false, ws29.length = ws29.length, ws17.length = ws17.length, decide (r60 < (0 : Int)) = false, decide (r60 < (0 : Int)) = false, (!b64) = false, (!b64) = false, (!b64) = false, (!b64) = false, (b30 != b18) = false, (b30 != b18) = false, (b30 != b18) = false, (b30 != b18) = false, (c31 != c19) = false, ws29.length = xss69.length, decide (r72 < (0 : Int)) = false, (r72 != r68) = false, 0 + xs79.length ≤ xs79.length, 0 = 0 ∧ xs79.length = xs79.length, xss84.length = xss84.length, ws86.length = ws86.length, ws17.length = ws17.length, (!b90) = false, (!b90) = false, (!b90) = false, (!b90) = false, (b87 != b18) = false, (b87 != b18) = false, (b87 != b18) = false, (b87 != b18) = false, (c88 != c19) = false, ws29.length = xss69.length, decide (r98 < (0 : Int)) = false, (r98 != r68) = false] (PA (decide_eq_false h4) (PA (decide_eq_false h8) (PO (PA ⟨(by first | omega | (simp; done) | (simp at *; omega)), (by omega)⟩ (PO (PO (PA ⟨(by first | omega | (simp; done) | (simp at *; omega)), (by omega)⟩ (PO (PO (PO (PA (not_f h36) (PA (not_f h36) (PA (not_f h36) (PA (not_f h36) (PA (bne_eq_false_iff_eq.2 h38) (PA (bne_eq_false_iff_eq.2 h38) (PA (bne_eq_false_iff_eq.2 h38) (PA (bne_eq_false_iff_eq.2 h38) (PA (bne_eq_false_iff_eq.2 h40) (PO (PA ⟨(by first | omega | (simp; done) | (simp at *; omega)), (by omega)⟩ (PO (PA ⟨(by first | omega | (simp; done) | (simp at *; omega)), (by omega)⟩ (PA (not_f h47) (PO (PO (PA (not_f h56) (PA (decide_eq_false h63) (PA (decide_eq_false h63) (PA (decide_eq_false h63) (PO (PO (PA (decide_eq_false h63) (PA (decide_eq_false h63) (PA (not_f h67) (PA (not_f h67) (PA (not_f h67) (PA (not_f h67) (PA (bne_eq_false_iff_eq.2 h38) (PA (bne_eq_false_iff_eq.2 h38) (PA (bne_eq_false_iff_eq.2 h38) (PA (bne_eq_false_iff_eq.2 h38) (PA (bne_eq_false_iff_eq.2 h40) (PA h71 (PA (decide_eq_false h75) (PA (bne_eq_false_iff_eq.2 h77) (PO (PA ⟨(by first | omega | (simp; done) | (simp at *; omega)), (by omega)⟩ (PO (PO (PO (PA (not_f h93) (PA (not_f h93) (PA (not_f h93) (PA (not_f h93) (PA (bne_eq_false_iff_eq.2 h95) (PA (bne_eq_false_iff_eq.2 h95) (PA (bne_eq_false_iff_eq.2 h95) (PA (bne_eq_false_iff_eq.2 h95) (PA (bne_eq_false_iff_eq.2 h97) (PA h71 (PA (decide_eq_false h101) (PA (bne_eq_false_iff_eq.2 h103) trivial))))))))))))))))))))))))))))))))))))))))))))))))))))))))))))))) (PC c2 (PC c6 (PC c11 (PC c16 (PC c20 (PC c23 (PC c28 (PC c32 (PC c34 (PC c43 (PC c45 (PC c52 (PC c54 (PC c59 (PC c61 (PC c65 (PC c70 (PC c73 (PC c80 (PC c85 (PC c89 (PC c91 (PC c99 PN))))))))))))))))))))))) LN
end Go.PR.S

end

section
set_option maxRecDepth 20000
namespace Go.PR.S
open Go Go.PR Go.Proofs Gp
theorem run_FnExactSourceSearch (m : Int) (d : List Int) (n s f : Int) (N : List (List Int)) (hd : d.length ≤ L63) (hx : N.length ≤ L63) (hw : ∀ xs ∈ N, xs.length ≤ L63) : Runs X F.z75 [alD m d, auD n s f N] [] (boolR true) := by
  have c1 := ztn m d hd
  by_cases hdl : d.length ≤ B40
  · rw [if_pos hdl] at c1
    have hdl' := hdl
    unfold B40 at hdl'
    obtain ⟨r, c2, _, hr⟩ := zto n s f N (1048576 - d.length) (by omega) (by unfold B40; omega) hx hw
    rcases hr with hr | ⟨hr, hl, hw, ht⟩
    · exact zp9 c1 (by omega) c2 hr
    · have cs := zv5 (zta (m := m) (d := d) (n := n) (s := s) (f := f) (N := N) hdl hl)
      have ci := zlj (zsu (m := m) (d := d) (n := n) (s := s) (f := f) (N := N) hdl hl hw)
      have hsm := ztx m d n s f N (gS d N)
      generalize seaR m d n s f N (gS d N) = t at cs ci hsm
      have htt := tot_le t.1 16 hsm.2
      have ca := zts n s f N hl hw
      have cl := ztr m d hdl
      have ce := zss n s f N hl hw
      have cd := zsr m d hdl
      have cq := zh8 t.1 (by unfold B40; omega) (fun xs hxs => by have := hsm.2 xs hxs; unfold B40; omega)
      have k1 := ztf m d 1 hdl (by omega) (by unfold B40; omega)
      have k2 := ztg n s f N (1 + (d.length : Int)) hl ht (by omega) (by unfold B40; omega)
      have k3 := zha t.1 1 (by unfold B40; omega) (by unfold B40; omega) (by omega) (by unfold B40; omega)
      have k4 := zsx t.1 1 (by unfold B40; omega) (by unfold B40; omega) (by omega) (by unfold B40; omega)
      have k5 := z97 t.1 1
      apply zp8
      all_goals first | exact c1 | exact c2 | exact cs | exact ci | exact ca | exact cl | exact ce | exact cd | exact cq | exact k1 | exact k2 | exact k3 | exact k4 | exact k5.symm | omega | rfl
  · rw [if_neg hdl] at c1
    exact zp7 c1 (by omega)
end Go.PR.S

end
