/- The smallest source set, IsSource, and their laws. -/
import Derived.Test.YtkoednplncfgaaaDoorFwP20
import Derived.Test.YtkoednplncfgaaaDoorFwG15
import Derived.Test.YtkoednplncfgaaaDoorFwG16
import Derived.Test.YtkoednplncfgaaaDoorFwG17
set_option linter.unusedVariables false
set_option linter.unusedSimpArgs false
set_option maxRecDepth 20000
namespace Go.PR.S
open Go Go.PR Go.Proofs Gp
section
variable {m n s f : Int} {d : List Int} {N : List (List Int)}
open Classical in
noncomputable def sB (d : List Int) (N : List (List Int)) (q E : Nat) : Bool := decide (Src d N E q)
open Classical in
theorem sB_iff {q E : Nat} : sB d N q E = true ↔ Src d N E q := by
  unfold sB; rw [decide_eq_true_eq]
theorem ztd (h : Ov m d n s f N) {E q : Nat} (hq : q < N.length) (hE : E < 2 ^ d.length) : Runs X F.z6 [alD m d, auD n s f N, iD q, iD E] [] (boolR (sB d N q E)) := by
  obtain ⟨b, r, i⟩ := ztc h hq hE
  have : b = sB d N q E := by rw [Bool.eq_iff_iff, i, sB_iff]
  rw [← this]; exact r
theorem zt0 {fs : List Bool} (h : Ov m d n s f N) (hEn : endsB N = true) {E q : Nat} (hq : q < N.length) (hE : E < 2 ^ d.length) : Runs X F.z4x [maD n s fs N, alD m d, iD q, iD E] [] (boolR (sB d N q E)) := by
  obtain ⟨b, r, i⟩ := zsy (fs := fs) h hEn hq hE
  have : b = sB d N q E := by rw [Bool.eq_iff_iff, i, sB_iff]
  rw [← this]; exact r
theorem sB_sub {q E : Nat} (hE : E < 2 ^ 63) (h : sB d N q E = true) : ∀ i, E.testBit i = true → (possM N q).testBit i = true := by
  exact (zgf hE).1 (sB_iff.1 h).1
theorem ztb (h : Ov m d n s f N) {q : Nat} (hq : q < N.length) : Runs X F.z1h [alD m d, auD n s f N, iD q, .bool true] [] (intR ((bst (possM N q) (sB d N q) (2 ^ d.length) : Nat) : Int)) := by
  have hd := h.dlen
  have hs8 := h.al.small
  have hlen := h.al.len
  have h2 := two_le h
  have hP := zc9 h hq
  have cp := z7e h.toAutP (q := (q : Int)) (by omega) (by omega)
  have cf := z7c (i := d.length) (by omega)
  rw [hd] at cf
  have lp : WL F.z1h 0 Tryd.f92 0 (z16 m d n s f N q (possM N q : Nat) 0) (zab ((bst (possM N q) (sB d N q) (2 ^ d.length) : Nat) : Int)) := by
    refine loop_to (N := 2 ^ d.length) (st := fun j => z16 m d n s f N q ((bst (possM N q) (sB d N q) j : Nat) : Int) j) (fun j hj Q hqq => ?_) (fun Q hqq => ?_)
    · have hb := bst_lt (g := sB d N q) hP j (by omega)
      have c1 := zh9 (m := j) (by omega)
      have c2 := zh9 (m := bst (possM N q) (sB d N q) j) (by omega)
      have c3 := ztd h hq hj
      rw [bst] at hqq
      by_cases h1 : pc j < pc (bst (possM N q) (sB d N q) j)
      · cases hg : sB d N q j with
        | true =>
          rw [if_pos ⟨h1, hg⟩] at hqq
          rw [hg] at c3
          apply zyi
          case hq => exact hqq
          all_goals first | exact cf | exact c1 | exact c2 | exact c3 | rfl | omega
        | false =>
          rw [if_neg (by rw [hg]; simp)] at hqq
          rw [hg] at c3
          apply zyj
          case hq => exact hqq
          all_goals first | exact cf | exact c1 | exact c2 | exact c3 | rfl | omega
      · rw [if_neg (fun hh => h1 hh.1)] at hqq
        by_cases h3 : pc j = pc (bst (possM N q) (sB d N q) j)
        · by_cases h4 : j < bst (possM N q) (sB d N q) j
          · have hg := bst_tie (P := possM N q) (g := sB d N q) (by omega) (fun hj' => sB_sub (by omega) hj') (by omega) h3 h4
            rw [hg] at c3
            apply zyk
            case hq => exact hqq
            all_goals first | exact cf | exact c1 | exact c2 | exact c3 | rfl | omega
          · apply zyl
            case hq => exact hqq
            all_goals first | exact cf | exact c1 | exact c2 | rfl | omega
        · apply zym
          case hq => exact hqq
          all_goals first | exact cf | exact c1 | exact c2 | rfl | omega
    · apply zyn
      case hq => exact hqq
      all_goals first | exact cf | omega
  exact zyh cp lp
theorem ztm {fs : List Bool} (h : Ov m d n s f N) (hEn : endsB N = true) {q : Nat} (hq : q < N.length) : Runs X F.z8i [maD n s fs N, alD m d, iD q] [] (intR ((bst (possM N q) (sB d N q) (2 ^ d.length) : Nat) : Int)) := by
  have hd := h.dlen
  have hs8 := h.al.small
  have hlen := h.al.len
  have h2 := two_le h
  have hP := zc9 h hq
  have cp := z4c (n := n) (s := s) (fs := fs) h.rowsP (q := (q : Int)) (by omega) (by omega)
  have co := z5f (i := d.length) (by omega)
  rw [hd] at co
  have lp : WL F.z20 0 Tryd.f151 0 (z1k n s fs N m d q ((2 ^ d.length : Nat) : Int) (possM N q : Nat) 0) (z8j ((bst (possM N q) (sB d N q) (2 ^ d.length) : Nat) : Int)) := by
    refine loop_to (N := 2 ^ d.length) (st := fun j => z1k n s fs N m d q ((2 ^ d.length : Nat) : Int) ((bst (possM N q) (sB d N q) j : Nat) : Int) j) (fun j hj Q hqq => ?_) (fun Q hqq => ?_)
    · have hb := bst_lt (g := sB d N q) hP j (by omega)
      have c1 := zhb (E := j) (by omega)
      have c2 := zhb (E := bst (possM N q) (sB d N q) j) (by omega)
      have c3 := zoj (zt0 (fs := fs) h hEn hq hj)
      have hnd : iandnot (j : Int) (possM N q : Nat) = (nandn j (possM N q) : Nat) := z1q (by omega) (by omega)
      rw [bst] at hqq
      by_cases h0 : nandn j (possM N q) = 0
      · by_cases h1 : pc j < pc (bst (possM N q) (sB d N q) j)
        · cases hg : sB d N q j with
          | true =>
            rw [if_pos ⟨h1, hg⟩] at hqq
            rw [hg] at c3
            apply zom
            case hq => exact hqq
            all_goals first | exact co | exact cp | exact c1 | exact c2 | exact c3 | rfl | (rw [hnd]; omega) | omega
          | false =>
            rw [if_neg (by rw [hg]; simp)] at hqq
            rw [hg] at c3
            apply zon
            case hq => exact hqq
            all_goals first | exact co | exact cp | exact c1 | exact c2 | exact c3 | rfl | (rw [hnd]; omega) | omega
        · rw [if_neg (fun hh => h1 hh.1)] at hqq
          apply zoo
          case hq => exact hqq
          all_goals first | exact co | exact cp | exact c1 | exact c2 | rfl | (rw [hnd]; omega) | omega
      · have hg : sB d N q j = false := by
          cases hg : sB d N q j with
          | false => rfl
          | true => exact absurd ((zgf (by omega)).2 (sB_sub (by omega) hg)) h0
        rw [if_neg (by rw [hg]; simp)] at hqq
        apply zop
        case hq => exact hqq
        all_goals first | exact co | exact cp | rfl | (rw [hnd]; omega) | omega
    · apply zoq
      case hq => exact hqq
      all_goals first | exact co | omega
  exact zoh (zol cp co lp)
end
end Go.PR.S
