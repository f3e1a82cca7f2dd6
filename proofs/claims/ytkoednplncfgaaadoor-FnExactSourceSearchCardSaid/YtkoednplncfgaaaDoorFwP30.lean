/- Both ends functions make the plain passes. -/
import Derived.Test.YtkoednplncfgaaaDoorFwP4
import Derived.Test.YtkoednplncfgaaaDoorFwG40
set_option linter.unusedVariables false
set_option linter.unusedSimpArgs false
section
set_option maxRecDepth 20000
namespace Go.PR.S
open Go Go.PR Go.Proofs
theorem zsf (w : List Bool) (b : Bool) (hl : w.length ≤ B40) : Runs X F.z9i [.immB w, .bool b] [] (boolR (!(w.all fun x => x != b))) := by
  let q : Bool → Bool := fun x => x != b
  by_cases hall : w.all q = true
  · have hq : ∀ j, j < w.length → ¬ b = w.getD j false := fun j hj e => by
      rw [z5r hj] at e
      have := List.all_eq_true.1 hall _ (List.getElem_mem hj)
      rw [← e] at this; simp [q] at this
    have h1 : Runs X F.z2g [.immB w, .bool b] [] (intR (-1)) := by
      refine zv1 (loop_to (N := w.length) (st := fun i => z3y w b i) (fun i hi Q hqq => ?_) (fun Q hqq => ?_))
      · apply zi7
        case hq => exact hqq
        all_goals first | exact hq i hi | (unfold B40 at hl; omega)
      · apply zv3
        case hq => exact hqq
        all_goals (unfold B40 at hl; omega)
    rw [show (w.all fun x => x != b) = true from hall]
    exact zhw h1
  · rw [← zgv] at hall
    obtain ⟨k, hk1, hk2, hk3⟩ := z2y hall
    have e : b = w.getD k false := by
      have h2 : (w.getD k false != b) = false := hk2
      revert h2; cases w.getD k false <;> cases b <;> simp
    have h1 : Runs X F.z2g [.immB w, .bool b] [] (intR k) := by
      refine zv0 (loop_to (N := k) (st := fun i => z3y w b i) (fun i hi Q hqq => ?_) (fun Q hqq => ?_))
      · have hx := hk3 i hi
        apply zi7
        case hq => exact hqq
        all_goals first | (intro e; rw [← e] at hx; simp [q] at hx; done) | (unfold B40 at hl; omega)
      · apply zv2
        case hq => exact hqq
        all_goals first | exact e | (unfold B40 at hl; omega)
    have h2 := zhw h1
    rw [zgv] at hall
    have e : (!(w.all fun x => x != b)) = decide ((k : Int) ≥ 0) := by
      have : w.all q = false := Bool.eq_false_iff.2 hall
      rw [show (w.all fun x => x != b) = false from this]; simp
    rw [e]
    exact h2
theorem zcf {r : Int} {b : List Bool} (h : r < b.length) : Runs X F.z1j [iD r, .pim [.immB b]] [] (boolR (!(decide (r < 0) || b.getD r.toNat false))) := by
  by_cases h0 : r ≥ 0
  · have : (!(decide (r < 0) || b.getD r.toNat false)) = !b.getD r.toNat false := by
      rw [decide_eq_false (by omega)]; rfl
    rw [this]; exact zno h0 h
  · have : (!(decide (r < 0) || b.getD r.toNat false)) = false := by
      rw [decide_eq_true (by omega)]; rfl
    rw [this]; exact znp h0
theorem zsb {w : List Int} {b : List Bool} (hl : w.length ≤ B40) (hw : ∀ j, j < w.length → w.getD j 0 < b.length) : Runs X F.z2u [lD w, .fn F.z1j [.pim [.immB b]]] [] (boolR (!(w.all fun r => decide (r < 0) || b.getD r.toNat false))) := by
  let q : Int → Bool := fun r => decide (r < 0) || b.getD r.toNat false
  by_cases hall : w.all q = true
  · have h1 : Runs X F.zf [lD w, .fn F.z1j [.pim [.immB b]]] [] (intR (-1)) := by
      refine zux (loop_to (N := w.length) (st := fun i => z3x w b i) (fun i hi Q hqq => ?_) (fun Q hqq => ?_))
      · have c1 := zcf (b := b) (hw i hi)
        have hx : q (w.getD i 0) = true := by rw [getD_lt hi]; exact List.all_eq_true.1 hall _ (List.getElem_mem hi)
        apply zi5
        case hq => exact hqq
        all_goals first | exact c1 | (show (!q (w.getD i 0)) = false; rw [hx]; rfl) | (unfold B40 at hl; omega)
      · apply zuz
        case hq => exact hqq
        all_goals (unfold B40 at hl; omega)
    rw [show (w.all fun r => decide (r < 0) || b.getD r.toNat false) = true from hall]
    exact zhv h1
  · rw [← z67] at hall
    obtain ⟨k, hk1, hk2, hk3⟩ := z2y hall
    have h1 : Runs X F.zf [lD w, .fn F.z1j [.pim [.immB b]]] [] (intR k) := by
      refine zuw (loop_to (N := k) (st := fun i => z3x w b i) (fun i hi Q hqq => ?_) (fun Q hqq => ?_))
      · have c1 := zcf (b := b) (hw i (by omega))
        have hx := hk3 i hi
        apply zi5
        case hq => exact hqq
        all_goals first | exact c1 | (show (!q (w.getD i 0)) = false; rw [hx]; rfl) | (unfold B40 at hl; omega)
      · have c1 := zcf (b := b) (hw k (by omega))
        apply zuy
        case hq => exact hqq
        all_goals first | exact c1 | (show (!q (w.getD k 0)) = true; rw [hk2]; rfl) | (unfold B40 at hl; omega)
    have h2 := zhv h1
    rw [z67] at hall
    have e : (!(w.all fun r => decide (r < 0) || b.getD r.toNat false)) = decide ((k : Int) ≥ 0) := by
      have : w.all q = false := by simpa using hall
      rw [show (w.all fun r => decide (r < 0) || b.getD r.toNat false) = false from this]; simp
    rw [e]
    exact h2
structure RowsP (N : List (List Int)) : Prop where
  l16 : N.length ≤ 16
  short : ∀ i, i < N.length → (N.getD i []).length ≤ 8
  below : ∀ i, i < N.length → ∀ a, a < (N.getD i []).length → (N.getD i []).getD a 0 < N.length
theorem AutP.rowsP {n s f : Int} {N : List (List Int)} (h : AutP n s f N) : RowsP N :=
  ⟨h.l16, fun i hi => by have := (h.rows i hi).1; have := h.n8; omega, fun i hi a ha => by have := ((h.rows i hi).2 a ha).2; omega⟩
theorem ziy {l : List Bool} {n : Nat} (h : l.length = n) : List.take n (List.drop 0 l) = l := by
  rw [List.drop_zero, ← h, List.take_length]
theorem zsq {n s : Int} {fs : List Bool} {N : List (List Int)} (h : RowsP N) : Runs X F.zz [maD n s fs N] [] (boolR (endsB N)) := by
  have hl := h.l16
  have inner : ∀ d : List Bool, d.length = N.length → WL F.zz 2 Tryd.f59 1 (z25 n s fs N false 0 d) (z87 n s fs N (passE N d).2 (passE N d).1) := by
    intro d hd
    refine loop_to (N := N.length) (st := fun j => z25 n s fs N (foldE N d j).2 j (foldE N d j).1) (fun j hj Q hqq => ?_) (fun Q hqq => ?_)
    · have hlen : (foldE N d j).1.length = N.length := by rw [z4o, hd]
      have ht := ziy hlen
      have c1 := zsb (w := N.getD j []) (b := (foldE N d j).1) (by have := h.short j hj; unfold B40; omega) (fun a ha => by rw [hlen]; exact h.below j hj a ha)
      rw [z6t] at hqq
      unfold stepE at hqq
      by_cases hdone : (foldE N d j).1.getD j false = true
      · rw [if_neg (by rw [hdone]; simp)] at hqq
        apply znm
        case hq => exact hqq
        all_goals first | (rw [Nat.zero_add]; exact hdone) | omega
      · have hdone : (foldE N d j).1.getD j false = false := by simpa using hdone
        by_cases hok : okE N (foldE N d j).1 j = true
        · rw [if_pos ⟨hdone, hok⟩] at hqq
          unfold okE at hok
          rw [hok] at c1
          apply znk (b7 := false)
          case hq => rw [Nat.zero_add]; exact hqq
          case c8 => rw [ht]; exact c1
          all_goals first | (rw [Nat.zero_add]; exact hdone) | omega | rfl
        · rw [if_neg (fun hh => hok hh.2)] at hqq
          have hok : okE N (foldE N d j).1 j = false := by simpa using hok
          unfold okE at hok
          rw [hok] at c1
          apply znl (b7 := true)
          case hq => exact hqq
          case c8 => rw [ht]; exact c1
          all_goals first | (rw [Nat.zero_add]; exact hdone) | omega | rfl
    · have hlen : (foldE N d N.length).1.length = N.length := by rw [z4o, hd]
      apply znn
      case hq => exact hqq
      all_goals omega
  have outer : ∀ (k : Nat) (d : List Bool), d.length = N.length → d.count false < k → WL F.zz 0 Tryd.f59 0 (z4w n s fs N true d) (z73 N (fixE N k d)) := by
    intro k
    induction k with
    | zero => intro d hd hk; omega
    | succ k ih =>
      intro d hd hk
      have hlen : (passE N d).1.length = N.length := by rw [z7a, hd]
      have hc := zb7 N d hd N.length (Nat.le_refl _)
      apply zni
      case l13 => exact inner d hd
      case hq =>
        unfold fixE
        cases hp : (passE N d).2 with
        | true =>
          rw [if_pos rfl]
          refine ih _ hlen ?_
          unfold passE at hp
          rw [hp, if_pos rfl] at hc
          unfold passE; omega
        | false =>
          rw [if_neg (by simp)]
          apply znj
          case hq => rfl
          all_goals first | rfl | omega
      all_goals first | omega | rfl
  have hlast : (lastE N).length = N.length := by unfold lastE; rw [z7u]; simp [noneE]
  have hc := zsf (lastE N) false (by unfold B40; omega)
  have ho : WL F.zz 0 Tryd.f59 0 (z4w n s fs N true (noneE N)) (z73 N (lastE N)) := outer (N.length + 1) (noneE N) (by simp [noneE]) (by unfold noneE; rw [List.count_replicate]; simp)
  have e : endsB N = !(!((lastE N).all fun x => x != false)) := by
    unfold endsB; rw [Bool.not_not]; congr 1; funext x; cases x <;> rfl
  rw [e]
  apply znh
  case l15 => exact ho
  case c18 => rw [ziy hlast]; exact hc
  all_goals first | omega | (show 0 + N.length ≤ (lastE N).length; omega)
theorem zt8 {n s f : Int} {N : List (List Int)} (h : AutP n s f N) : Runs X F.zh [auD n s f N] [] (boolR (endsB N)) := by
  have hl := h.l16
  have inner2 : ∀ (d : List Bool) (c : Bool) (j : Nat), d.length = N.length → j < N.length → WL F.zh 4 Tryd.f54 2 (z1y n s f N (mOf d) c j (d.getD j false) 0) (z6j n s f N (mOf d) c j (d.getD j false || !(okE N d j))) := by
    intro d c j hd hj
    obtain ⟨hr, hb⟩ := h.rows j hj
    have hn8 := h.n8
    have hmd := mOf_lt d
    have h62 : (2 : Nat) ^ d.length ≤ 2 ^ 16 := Nat.pow_le_pow_right (by omega) (by omega)
    let p : Nat → Bool := fun a => decide ((N.getD j []).getD a 0 < 0) || d.getD ((N.getD j []).getD a 0).toNat false
    have he : (d.getD j false || !(okE N d j)) = (d.getD j false || !((List.range (N.getD j []).length).all p)) := by
      unfold okE; rw [← z67]
    rw [he]
    have e0 : d.getD j false = (d.getD j false || !((List.range 0).all p)) := by simp
    suffices this : WL F.zh 4 Tryd.f54 2 (z1y n s f N (mOf d) c j (d.getD j false || !((List.range 0).all p)) 0) (z6j n s f N (mOf d) c j (d.getD j false || !((List.range (N.getD j []).length).all p))) by
      rw [← e0] at this; exact this
    refine loop_to (N := (N.getD j []).length) (st := fun i => z1y n s f N (mOf d) c j (d.getD j false || !((List.range i).all p)) i) (fun i hi Q hqq => ?_) (fun Q hqq => ?_)
    · have hbi := hb i hi
      have hall : (List.range (i + 1)).all p = ((List.range i).all p && p i) := by rw [List.range_succ, List.all_append]; simp
      rw [hall] at hqq
      cases hleft : (d.getD j false || !((List.range i).all p)) with
      | true =>
        have : (d.getD j false || !((List.range i).all p && p i)) = true := by
          revert hleft; cases d.getD j false <;> cases (List.range i).all p <;> simp
        rw [this] at hqq
        apply zx9
        case hq => exact hqq
        all_goals first | rfl | omega
      | false =>
        have hleft' : (d.getD j false || !((List.range i).all p && p i)) = !p i := by
          revert hleft; cases d.getD j false <;> cases (List.range i).all p <;> simp
        rw [hleft'] at hqq
        by_cases h0 : (N.getD j []).getD i 0 ≥ 0
        · have c1 := z5e (m := mOf d) (i := ((N.getD j []).getD i 0).toNat) (by omega) (by omega)
          rw [show (((N.getD j []).getD i 0).toNat : Int) = (N.getD j []).getD i 0 by omega] at c1
          have hp : p i = tb (mOf d) ((N.getD j []).getD i 0) := by
            show (decide ((N.getD j []).getD i 0 < 0) || d.getD ((N.getD j []).getD i 0).toNat false) = _
            rw [decide_eq_false (by omega), Bool.false_or]
            unfold tb
            rw [Int.toNat_natCast, mOf_bit]
          rw [hp] at hqq
          apply zxa
          case hq => exact hqq
          all_goals first | exact c1 | rfl | omega
        · have hp : p i = true := by
            show (decide ((N.getD j []).getD i 0 < 0) || d.getD ((N.getD j []).getD i 0).toNat false) = _
            rw [decide_eq_true (by omega)]; rfl
          rw [hp] at hqq
          apply zxb
          case hq => exact hqq
          all_goals first | rfl | omega
    · apply zxc
      case hq => exact hqq
      all_goals omega
  have inner : ∀ d : List Bool, d.length = N.length → WL F.zh 2 Tryd.f54 1 (z39 n s f N (mOf d) false 0) (za1 n s f N (mOf (passE N d).1) (passE N d).2) := by
    intro d hd
    refine loop_to (N := N.length) (st := fun j => z39 n s f N (mOf (foldE N d j).1) (foldE N d j).2 j) (fun j hj Q hqq => ?_) (fun Q hqq => ?_)
    · have hlen : (foldE N d j).1.length = N.length := by rw [z4o, hd]
      have hmd := mOf_lt (foldE N d j).1
      have h62 : (2 : Nat) ^ (foldE N d j).1.length ≤ 2 ^ 16 := Nat.pow_le_pow_right (by omega) (by omega)
      have c1 := z5e (m := mOf (foldE N d j).1) (i := j) (by omega) (by omega)
      have hbit : tb (mOf (foldE N d j).1) j = (foldE N d j).1.getD j false := by unfold tb; rw [Int.toNat_natCast, Int.toNat_natCast, mOf_bit]
      rw [hbit] at c1
      have l1 := inner2 (foldE N d j).1 (foldE N d j).2 j hlen hj
      rw [z6t] at hqq
      unfold stepE at hqq
      by_cases hc : (foldE N d j).1.getD j false = false ∧ okE N (foldE N d j).1 j = true
      · rw [if_pos hc] at hqq
        rw [hc.1, hc.2] at l1
        rw [hc.1] at c1
        have c2 := z7d (i := j) (by omega)
        have hor : ior (mOf (foldE N d j).1 : Int) ((2 ^ j : Nat) : Int) = ((mOf ((foldE N d j).1.set j true) : Nat) : Int) := by
          rw [ior_nat (by omega) (pow62 (by omega)), mOf_set (by omega)]
        apply zx6
        case hq => rw [hor]; exact hqq
        all_goals first | exact c1 | exact l1 | exact c2 | rfl | omega
      · rw [if_neg hc] at hqq
        have hv : ((foldE N d j).1.getD j false || !(okE N (foldE N d j).1 j)) = true := by
          cases h1 : (foldE N d j).1.getD j false
          · cases h2 : okE N (foldE N d j).1 j
            · rfl
            · exact (hc ⟨h1, h2⟩).elim
          · rfl
        rw [hv] at l1
        apply zx7
        case hq => exact hqq
        all_goals first | exact c1 | exact l1 | rfl | omega
    · apply zx8
      case hq => exact hqq
      all_goals omega
  have outer : ∀ (k : Nat) (d : List Bool), d.length = N.length → d.count false < k → WL F.zh 0 Tryd.f54 0 (z6k n s f N (mOf d) true) (za0 n s f N (mOf (fixE N k d))) := by
    intro k
    induction k with
    | zero => intro d hd hk; omega
    | succ k ih =>
      intro d hd hk
      have hlen : (passE N d).1.length = N.length := by rw [z7a, hd]
      have hc := zb7 N d hd N.length (Nat.le_refl _)
      apply zx4
      case l25 => exact inner d hd
      case hq =>
        unfold fixE
        cases hp : (passE N d).2 with
        | true =>
          rw [if_pos rfl]
          refine ih _ hlen ?_
          unfold passE at hp
          rw [hp, if_pos rfl] at hc
          unfold passE; omega
        | false =>
          rw [if_neg (by simp)]
          apply zx5
          case hq => rfl
          all_goals first | rfl | omega
      all_goals first | omega | rfl
  have hlast : (lastE N).length = N.length := by unfold lastE; rw [z7u]; simp [noneE]
  have ho := outer (N.length + 1) (noneE N) (by simp [noneE]) (by unfold noneE; rw [List.count_replicate]; simp)
  rw [zr6] at ho
  have c := z7c (i := N.length) (by omega)
  have e : endsB N = ((mOf (lastE N) : Int) == (((2 ^ N.length : Nat) : Int) - 1)) := by
    unfold endsB
    rw [Bool.eq_iff_iff, ← zr5, beq_iff_eq, hlast]
    have := Nat.two_pow_pos N.length
    omega
  rw [e]
  apply zx3
  case l27 => exact ho
  case c29 => exact c
end Go.PR.S

end

section
set_option maxRecDepth 20000
namespace Go.PR.S
open Go Go.PR Go.Proofs
theorem zcg (n s f m : Int) (N : List (List Int)) (row : List Int) (hl : row.length ≤ B40) (h0 : 0 ≤ m) (h1 : m ≤ B40) : Runs X F.z1r [lD row, .pim [iD n, iD s, iD f, .imm2 .i64 N], .pim [iD m]] [] (boolR (!(rowOK n m row))) := by
  by_cases h : (row.length : Int) = n
  · have c := zh4 row (-1) (m - 1) hl
    have : (!(rowOK n m row)) = !(row.all fun x => decide (-1 ≤ x ∧ x ≤ m - 1)) := by unfold rowOK; rw [decide_eq_true h, Bool.true_and]
    rw [this]
    unfold B40 at h1
    exact zld h (by omega) (by omega) c
  · have : (!(rowOK n m row)) = true := by unfold rowOK; rw [decide_eq_false h]; rfl
    rw [this]
    exact zlc h
theorem zsc (n s f m : Int) (N w : List (List Int)) (hl : w.length ≤ B40) (hw : ∀ r ∈ w, r.length ≤ B40) (h0 : 0 ≤ m) (hm : m ≤ B40) : Runs X F.z9h [.imm2 .i64 w, .fn F.z1r [.pim [iD n, iD s, iD f, .imm2 .i64 N], .pim [iD m]]] [] (boolR (!(w.all (rowOK n m)))) := by
  let q : List Int → Bool := rowOK n m
  have hmem : ∀ j, j < w.length → (w.getD j []).length ≤ B40 := fun j hj => hw _ (by rw [getR_lt hj]; exact List.getElem_mem hj)
  by_cases hall : w.all q = true
  · have h1 : Runs X F.z2f [.imm2 .i64 w, .fn F.z1r [.pim [iD n, iD s, iD f, .imm2 .i64 N], .pim [iD m]]] [] (intR (-1)) := by
      refine zuc (loop_to (N := w.length) (st := fun i => z3t n s f m N w i) (fun i hi Q hqq => ?_) (fun Q hqq => ?_))
      · have c1 := zcg n s f m N (w.getD i []) (hmem i hi) h0 hm
        have hx : q (w.getD i []) = true := by rw [getR_lt hi]; exact List.all_eq_true.1 hall _ (List.getElem_mem hi)
        apply zhy
        case hq => exact hqq
        all_goals first | exact c1 | (show (!q (w.getD i [])) = false; rw [hx]; rfl) | (unfold B40 at hl; omega)
      · apply zue
        case hq => exact hqq
        all_goals (unfold B40 at hl; omega)
    rw [show (w.all (rowOK n m)) = true from hall]
    exact zhr h1
  · rw [← zcc] at hall
    obtain ⟨k, hk1, hk2, hk3⟩ := z2y hall
    have h1 : Runs X F.z2f [.imm2 .i64 w, .fn F.z1r [.pim [iD n, iD s, iD f, .imm2 .i64 N], .pim [iD m]]] [] (intR k) := by
      refine zub (loop_to (N := k) (st := fun i => z3t n s f m N w i) (fun i hi Q hqq => ?_) (fun Q hqq => ?_))
      · have c1 := zcg n s f m N (w.getD i []) (hmem i (by omega)) h0 hm
        have hx := hk3 i hi
        apply zhy
        case hq => exact hqq
        all_goals first | exact c1 | (show (!q (w.getD i [])) = false; rw [hx]; rfl) | (unfold B40 at hl; omega)
      · have c1 := zcg n s f m N (w.getD k []) (hmem k (by omega)) h0 hm
        apply zud
        case hq => exact hqq
        all_goals first | exact c1 | (show (!q (w.getD k [])) = true; rw [hk2]; rfl) | (unfold B40 at hl; omega)
    have h2 := zhr h1
    rw [zcc] at hall
    have e : (!(w.all (rowOK n m))) = decide ((k : Int) ≥ 0) := by
      have : w.all q = false := by simpa using hall
      rw [show (w.all (rowOK n m)) = false from this]; simp
    rw [e]
    exact h2
theorem zsh (n s f : Int) (N : List (List Int)) (hl : N.length ≤ B40) (hw : ∀ r ∈ N, r.length ≤ B40) : Runs X F.z46 [auD n s f N] [] (boolR (autOK n s f N)) := by
  have hl' := hl
  unfold B40 at hl'
  have c1 := z5d n 0 8
  have c2 := z5d (N.length : Int) 1 16
  have c3 := z5d s 0 ((N.length : Int) - 1)
  unfold autOK
  by_cases h1 : 0 ≤ n ∧ n ≤ 8
  · rw [decide_eq_true h1] at c1 ⊢
    by_cases h2 : 1 ≤ (N.length : Int) ∧ (N.length : Int) ≤ 16
    · rw [decide_eq_true h2] at c2 ⊢
      by_cases h3 : 0 ≤ s ∧ s ≤ (N.length : Int) - 1
      · rw [decide_eq_true h3] at c3 ⊢
        have c4 := zsi (N := N.length) (by omega) f
        by_cases h4 : 0 ≤ f ∧ f ≤ ((2 ^ N.length : Nat) : Int) - 1
        · rw [decide_eq_true h4] at c4 ⊢
          have c5 := zsc n s f N.length N N hl hw (by omega) (by unfold B40; omega)
          have := zlb c1 rfl c2 rfl (by omega) c3 rfl c4 rfl c5
          rw [Bool.not_not] at this
          exact this
        · rw [decide_eq_false h4] at c4 ⊢
          exact zla c1 rfl c2 rfl (by omega) c3 rfl c4 rfl
      · rw [decide_eq_false h3] at c3 ⊢
        exact zl9 c1 rfl c2 rfl (by omega) c3 rfl
    · rw [decide_eq_false h2] at c2 ⊢
      exact zl8 c1 rfl c2 rfl
  · rw [decide_eq_false h1] at c1 ⊢
    exact zl7 c1 rfl
theorem zt5 (n s f : Int) (N : List (List Int)) (hl : N.length ≤ B40) : Runs X F.zi [auD n s f N] [] (boolR (autOK n s f N)) := by
  have hl' := hl
  unfold B40 at hl'
  have c1 := z2e n 0 8
  have c2 := z2e (N.length : Int) 1 16
  have c3 := z2e s 0 ((N.length : Int) - 1)
  unfold autOK
  by_cases h1 : 0 ≤ n ∧ n ≤ 8
  · rw [decide_eq_true h1] at c1 ⊢
    by_cases h2 : 1 ≤ (N.length : Int) ∧ (N.length : Int) ≤ 16
    · rw [decide_eq_true h2] at c2 ⊢
      by_cases h3 : 0 ≤ s ∧ s ≤ (N.length : Int) - 1
      · rw [decide_eq_true h3] at c3 ⊢
        have c4 := z7c (i := N.length) (by omega)
        have c5 := z2e f 0 (((2 ^ N.length : Nat) : Int) - 1)
        by_cases h4 : 0 ≤ f ∧ f ≤ ((2 ^ N.length : Nat) : Int) - 1
        · rw [decide_eq_true h4] at c5 ⊢
          have hn8 := h1.2
          have hln := h2.2
          let p : Nat → Bool := fun i => rowOK n N.length (N.getD i [])
          have lp : WL F.zi 0 Tryd.f53 0 (z38 n s f N 0) (if (List.range N.length).all p then z9w else z6i) := by
            refine z2s (N := N.length) (p := p) (st := fun i => z38 n s f N i) (fun i hi hp Q hqq => ?_) (fun i hi hp Q hqq => ?_) (fun Q hqq => ?_)
            · have hp' : rowOK n N.length (N.getD i []) = true := hp
              unfold rowOK at hp'
              rw [Bool.and_eq_true, decide_eq_true_eq] at hp'
              have l1 : WL F.zi 2 Tryd.f53 1 (z2x n s f N i 0) (z9y n s f N i) := by
                refine loop_to (N := (N.getD i []).length) (st := fun j => z2x n s f N i j) (fun j hj Q hqq => ?_) (fun Q hqq => ?_)
                · have c := z2e ((N.getD i []).getD j 0) (-1) ((N.length : Int) - 1)
                  have hx : decide (-1 ≤ (N.getD i []).getD j 0 ∧ (N.getD i []).getD j 0 ≤ (N.length : Int) - 1) = true := by
                    rw [getD_lt hj]; exact List.all_eq_true.1 hp'.2 _ (List.getElem_mem hj)
                  rw [hx] at c
                  apply zig
                  case hq => exact hqq
                  all_goals first | exact c | rfl | omega
                · apply zwn
                  case hq => exact hqq
                  all_goals omega
              apply zwk
              case hq => exact hqq
              all_goals first | exact l1 | omega
            · have hp' : rowOK n N.length (N.getD i []) = false := hp
              unfold rowOK at hp'
              by_cases hr : ((N.getD i []).length : Int) = n
              · rw [decide_eq_true hr, Bool.true_and, ← z67] at hp'
                obtain ⟨k, hk1, hk2, hk3⟩ := z2y (by rw [hp']; simp)
                have l1 : WL F.zi 2 Tryd.f53 1 (z2x n s f N i 0) (z9x n s f N i) := by
                  refine loop_to (N := k) (st := fun j => z2x n s f N i j) (fun j hj Q hqq => ?_) (fun Q hqq => ?_)
                  · have c := z2e ((N.getD i []).getD j 0) (-1) ((N.length : Int) - 1)
                    rw [hk3 j hj] at c
                    apply zig
                    case hq => exact hqq
                    all_goals first | exact c | rfl | omega
                  · have c := z2e ((N.getD i []).getD k 0) (-1) ((N.length : Int) - 1)
                    rw [hk2] at c
                    apply zwm
                    case hq => exact hqq
                    all_goals first | exact c | rfl | omega
                apply zwj
                case hq => exact hqq
                all_goals first | exact l1 | omega
              · apply zwi
                case hq => exact hqq
                all_goals first | exact hr | omega
            · apply zwl
              case hq => exact hqq
              all_goals omega
          have hrange : (List.range N.length).all p = N.all (rowOK n N.length) := zcc
          rw [hrange] at lp
          simp only [Bool.true_and]
          cases hr : N.all (rowOK n N.length) with
          | true => rw [hr, if_pos rfl] at lp; exact zwh c1 rfl c2 rfl (by omega) c3 rfl c4 c5 rfl lp
          | false => rw [hr, if_neg (by simp)] at lp; exact zwg c1 rfl c2 rfl (by omega) c3 rfl c4 c5 rfl lp
        · rw [decide_eq_false h4] at c5 ⊢
          exact zwf c1 rfl c2 rfl (by omega) c3 rfl c4 c5 rfl
      · rw [decide_eq_false h3] at c3 ⊢
        exact zwe c1 rfl c2 rfl (by omega) c3 rfl
    · rw [decide_eq_false h2] at c2 ⊢
      exact zwd c1 rfl c2 rfl
  · rw [decide_eq_false h1] at c1 ⊢
    exact zwc c1 rfl
def finals (f : Int) (N : List (List Int)) : List Bool := (List.range N.length).map fun (i : Nat) => tb f i
theorem zte {n s f : Int} {N : List (List Int)} (h : AutP n s f N) : Runs X F.z1u [auD n s f N] [] ⟨.agg [.int .i64 n, .int .i64 s, .rsl 600000 0 (finals f N).length, .imm2 .i64 N], [], [⟨true, .bools (finals f N)⟩]⟩ := by
  have hl := h.l16
  have hl1 := h.l1
  have hf0 := h.f0
  have hfl := h.fl
  have h62 : (2 : Nat) ^ N.length ≤ 2 ^ 16 := Nat.pow_le_pow_right (by omega) (by omega)
  obtain ⟨m, rfl⟩ : ∃ m : Nat, f = m := ⟨f.toNat, by omega⟩
  have hm : m < 2 ^ 63 := by omega
  have lp : ∀ (k i : Nat), i + k = N.length → 0 < i → WL F.z1u 0 Tryd.f58 0 (z4v n s m N i ((List.range i).map fun (i : Nat) => tb m i)) (z72 n s N (finals m N)) := by
    intro k
    induction k with
    | zero =>
      intro i hi h0
      obtain rfl : i = N.length := by omega
      apply zn5
      case hq => rfl
      all_goals omega
    | succ k ih =>
      intro i hi h0
      have c := z7b (m := m) (i := i) hm
      have hq := ih (i + 1) (by omega) (by omega)
      rw [List.range_succ, List.map_append] at hq
      apply zn4
      case hq => exact hq
      all_goals first | exact c | omega | (simp; omega)
  have c0 := z7b (m := m) (i := 0) hm
  have l0 : WL F.z1u 0 Tryd.f58 0 (zbd n s m N) (z72 n s N (finals m N)) := by
    apply zn3
    case hq => exact lp (N.length - 1) 1 (by omega) (by omega)
    all_goals first | exact c0 | omega
  exact zn2 l0
def possM (N : List (List Int)) (q : Int) : Nat := mkM (fun a => decide ((N.getD q.toNat []).getD a 0 ≥ 0)) (N.getD q.toNat []).length
theorem z4c {n s : Int} {fs : List Bool} {N : List (List Int)} {q : Int} (h : RowsP N) (h0 : 0 ≤ q) (hq : q < N.length) : Runs X F.za [maD n s fs N, iD q] [] (intR (possM N q)) := by
  have hs := h.short q.toNat (by omega)
  let g : Nat → Bool := fun a => decide ((N.getD q.toNat []).getD a 0 ≥ 0)
  have lp : WL F.za 0 Tryd.f97 0 (z30 N q 0 0) (z8h (possM N q)) := by
    refine loop_to (N := (N.getD q.toNat []).length) (st := fun i => z30 N q (mkM g i : Nat) i) (fun i hi Q hqq => ?_) (fun Q hqq => ?_)
    · have hm := mkM_lt g i
      have h62 : (2 : Nat) ^ i ≤ 2 ^ 16 := Nat.pow_le_pow_right (by omega) (by omega)
      by_cases hg : (N.getD q.toNat []).getD i 0 ≥ 0
      · have e : mkM g (i + 1) = mkM g i ||| 2 ^ i := by show mkM g i ||| (if g i then 2 ^ i else 0) = _; rw [if_pos (decide_eq_true hg)]
        rw [e, ← ior_nat (by omega) (pow62 (i := i) (by omega))] at hqq
        have c := z5f (i := i) (by omega)
        apply zod
        case hq => exact hqq
        all_goals first | omega | exact c
      · have e : mkM g (i + 1) = mkM g i := by
          have hgf : g i = false := decide_eq_false hg
          rw [mkM, hgf]; simp
        rw [e] at hqq
        apply zoe
        case hq => exact hqq
        all_goals omega
    · apply zof
      case hq => exact hqq
      all_goals omega
  exact zoc h0 hq lp
theorem z7e {n s f : Int} {N : List (List Int)} {q : Int} (h : AutP n s f N) (h0 : 0 ≤ q) (hq : q < N.length) : Runs X F.zu [auD n s f N, iD q] [] (intR (possM N q)) := by
  have hs := h.rowsP.short q.toNat (by omega)
  have hr := (h.rows q.toNat (by omega)).1
  have hn8 := h.n8
  let g : Nat → Bool := fun a => decide ((N.getD q.toNat []).getD a 0 ≥ 0)
  have lp : WL F.zu 0 Tryd.f107 0 (z3a n s f N q 0 0) (za8 (possM N q)) := by
    refine loop_to (N := (N.getD q.toNat []).length) (st := fun i => z3a n s f N q (mkM g i : Nat) i) (fun i hi Q hqq => ?_) (fun Q hqq => ?_)
    · have hm := mkM_lt g i
      have h62 : (2 : Nat) ^ i ≤ 2 ^ 16 := Nat.pow_le_pow_right (by omega) (by omega)
      by_cases hg : (N.getD q.toNat []).getD i 0 ≥ 0
      · have e : mkM g (i + 1) = mkM g i ||| 2 ^ i := by show mkM g i ||| (if g i then 2 ^ i else 0) = _; rw [if_pos (decide_eq_true hg)]
        rw [e, ← ior_nat (by omega) (pow62 (i := i) (by omega))] at hqq
        have c := z7d (i := i) (by omega)
        apply zxu
        case hq => exact hqq
        all_goals first | omega | exact c
      · have e : mkM g (i + 1) = mkM g i := by
          have hgf : g i = false := decide_eq_false hg
          rw [mkM, hgf]; simp
        rw [e] at hqq
        apply zxv
        case hq => exact hqq
        all_goals omega
    · apply zxw
      case hq => exact hqq
      all_goals omega
  exact zxt lp
end Go.PR.S

end

section
set_option maxRecDepth 20000
namespace Go.PR.S
open Go Go.PR Go.Proofs
def marks (k : Int) (n : Nat) : List Int := (List.range n).map fun i : Nat => k + (i : Int)
theorem z3o (k : Int) (n : Nat) : (marks k n).length = n := by unfold marks; simp
theorem zgd (k : Int) (n : Nat) : marks k (n + 1) = marks k n ++ [k + n] := by
  unfold marks
  rw [List.range_succ, List.map_append]
  rfl
theorem zr7 (k : Int) {n i : Nat} (h : i < n) : (marks k n).getD i 0 = k + i := by
  unfold marks
  rw [List.getD_eq_getElem?_getD, List.getElem?_map, List.getElem?_range h]
  rfl
abbrev passR (r : Int) (xs : List Int) : Ret := ⟨.int .i64 r, [some ⟨true, .ints .i64 xs⟩], []⟩
theorem zth (xs : List Int) (k : Int) (hl : xs.length ≤ B40) (h0 : 0 ≤ k) (hk : k ≤ 4 * B40) :
    Runs X F.z1d [.rsl 500000 0 xs.length, iD k] [⟨true, .ints .i64 xs⟩] (passR (k + xs.length) (marks k xs.length)) := by
  unfold B40 at hl hk
  refine zq7 ?_
  have key := loop_to (f := F.z1d) (b := 0) (body := lb Tryd.f98 0) (N := xs.length) (o := z8z (k + xs.length) (marks k xs.length)) (st := fun i => z63 xs (k + i) i (marks k i ++ xs.drop i)) (fun i hi Q hq => ?_) (fun Q hq => ?_)
  · simpa [marks] using key
  · have e : (marks k i ++ xs.drop i).set (0 + i) (k + i) = marks k (i + 1) ++ xs.drop (i + 1) := by
      rw [Nat.zero_add, List.set_append_right _ _ (by rw [z3o]; exact Nat.le_refl _), z3o, Nat.sub_self, zgd, List.drop_eq_getElem_cons hi, List.set_cons_zero, List.append_assoc]
      rfl
    apply zq8
    case hq => rw [e, show k + (i : Int) + 1 = k + ((i + 1 : Nat) : Int) by omega]; exact hq
    all_goals first | (rw [List.length_append, z3o, List.length_drop]; omega) | omega
  · apply zq9
    case hq => simpa using hq
    all_goals first | (rw [List.length_append, z3o, List.length_drop]; omega) | omega
theorem ztf (n : Int) (xs : List Int) (k : Int) (hl : xs.length ≤ B40) (h0 : 0 ≤ k) (hk : k ≤ 4 * B40) :
    Runs X F.z8v [.agg [iD n, .rsl 500000 0 xs.length], iD k] [⟨true, .ints .i64 xs⟩] (passR (k + xs.length) (marks k xs.length)) :=
  zpv (zth xs k hl h0 hk)
theorem zsw (k : Int) (n : Nat) (hl : n ≤ B40) (h0 : 0 ≤ k) (hk : k ≤ 4 * B40) :
    Runs X F.z3l [lD (marks k n), iD k] [] (intR (k + n)) := by
  unfold B40 at hl hk
  refine zpr ?_
  have key := loop_to (f := F.z3l) (b := 0) (body := lb Tryd.f99 0) (N := n) (o := z8u (k + n)) (st := fun i => z60 (marks k n) (k + i) i) (fun i hi Q hq => ?_) (fun Q hq => ?_)
  · simpa using key
  · apply zps
    case hq => rw [show k + (i : Int) + 1 = k + ((i + 1 : Nat) : Int) by omega]; exact hq
    all_goals first | exact zr7 k hi | (rw [z3o]; omega) | omega
  · apply zpt
    case hq => exact hq
    all_goals (rw [z3o]; omega)
end Go.PR.S

end
