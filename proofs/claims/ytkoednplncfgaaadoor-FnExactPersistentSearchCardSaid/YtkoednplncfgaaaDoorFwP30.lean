/- Both ends functions make the plain passes. -/
import Derived.Test.YtkoednplncfgaaaDoorFwP4
import Derived.Test.YtkoednplncfgaaaDoorFwG40
set_option linter.unusedVariables false
set_option linter.unusedSimpArgs false
section
set_option maxRecDepth 20000
namespace Go.PR.S
open Go Go.PR Go.Proofs
theorem zsr (w : List Bool) (b : Bool) (hl : w.length ≤ B40) : Runs X F.z9p [.immB w, .bool b] [] (boolR (!(w.all fun x => x != b))) := by
  let q : Bool → Bool := fun x => x != b
  by_cases hall : w.all q = true
  · have hq : ∀ j, j < w.length → ¬ b = w.getD j false := fun j hj e => by
      rw [z5u hj] at e
      have := List.all_eq_true.1 hall _ (List.getElem_mem hj)
      rw [← e] at this; simp [q] at this
    have h1 : Runs X F.z2i [.immB w, .bool b] [] (intR (-1)) := by
      refine zvc (loop_to (N := w.length) (st := fun i => z42 w b i) (fun i hi Q hqq => ?_) (fun Q hqq => ?_))
      · apply zic
        case hq => exact hqq
        all_goals first | exact hq i hi | (unfold B40 at hl; omega)
      · apply zve
        case hq => exact hqq
        all_goals (unfold B40 at hl; omega)
    rw [show (w.all fun x => x != b) = true from hall]
    exact zi1 h1
  · rw [← zh0] at hall
    obtain ⟨k, hk1, hk2, hk3⟩ := z3g hall
    have e : b = w.getD k false := by
      have h2 : (w.getD k false != b) = false := hk2
      revert h2; cases w.getD k false <;> cases b <;> simp
    have h1 : Runs X F.z2i [.immB w, .bool b] [] (intR k) := by
      refine zvb (loop_to (N := k) (st := fun i => z42 w b i) (fun i hi Q hqq => ?_) (fun Q hqq => ?_))
      · have hx := hk3 i hi
        apply zic
        case hq => exact hqq
        all_goals first | (intro e; rw [← e] at hx; simp [q] at hx; done) | (unfold B40 at hl; omega)
      · apply zvd
        case hq => exact hqq
        all_goals first | exact e | (unfold B40 at hl; omega)
    have h2 := zi1 h1
    rw [zh0] at hall
    have e : (!(w.all fun x => x != b)) = decide ((k : Int) ≥ 0) := by
      have : w.all q = false := Bool.eq_false_iff.2 hall
      rw [show (w.all fun x => x != b) = false from this]; simp
    rw [e]
    exact h2
theorem zcj {r : Int} {b : List Bool} (h : r < b.length) : Runs X F.z1j [iD r, .pim [.immB b]] [] (boolR (!(decide (r < 0) || b.getD r.toNat false))) := by
  by_cases h0 : r ≥ 0
  · have : (!(decide (r < 0) || b.getD r.toNat false)) = !b.getD r.toNat false := by
      rw [decide_eq_false (by omega)]; rfl
    rw [this]; exact znw h0 h
  · have : (!(decide (r < 0) || b.getD r.toNat false)) = false := by
      rw [decide_eq_true (by omega)]; rfl
    rw [this]; exact znx h0
theorem zsn {w : List Int} {b : List Bool} (hl : w.length ≤ B40) (hw : ∀ j, j < w.length → w.getD j 0 < b.length) : Runs X F.z2w [lD w, .fn F.z1j [.pim [.immB b]]] [] (boolR (!(w.all fun r => decide (r < 0) || b.getD r.toNat false))) := by
  let q : Int → Bool := fun r => decide (r < 0) || b.getD r.toNat false
  by_cases hall : w.all q = true
  · have h1 : Runs X F.zh [lD w, .fn F.z1j [.pim [.immB b]]] [] (intR (-1)) := by
      refine zv8 (loop_to (N := w.length) (st := fun i => z41 w b i) (fun i hi Q hqq => ?_) (fun Q hqq => ?_))
      · have c1 := zcj (b := b) (hw i hi)
        have hx : q (w.getD i 0) = true := by rw [getD_lt hi]; exact List.all_eq_true.1 hall _ (List.getElem_mem hi)
        apply zia
        case hq => exact hqq
        all_goals first | exact c1 | (show (!q (w.getD i 0)) = false; rw [hx]; rfl) | (unfold B40 at hl; omega)
      · apply zva
        case hq => exact hqq
        all_goals (unfold B40 at hl; omega)
    rw [show (w.all fun r => decide (r < 0) || b.getD r.toNat false) = true from hall]
    exact zi0 h1
  · rw [← z6d] at hall
    obtain ⟨k, hk1, hk2, hk3⟩ := z3g hall
    have h1 : Runs X F.zh [lD w, .fn F.z1j [.pim [.immB b]]] [] (intR k) := by
      refine zv7 (loop_to (N := k) (st := fun i => z41 w b i) (fun i hi Q hqq => ?_) (fun Q hqq => ?_))
      · have c1 := zcj (b := b) (hw i (by omega))
        have hx := hk3 i hi
        apply zia
        case hq => exact hqq
        all_goals first | exact c1 | (show (!q (w.getD i 0)) = false; rw [hx]; rfl) | (unfold B40 at hl; omega)
      · have c1 := zcj (b := b) (hw k (by omega))
        apply zv9
        case hq => exact hqq
        all_goals first | exact c1 | (show (!q (w.getD k 0)) = true; rw [hk2]; rfl) | (unfold B40 at hl; omega)
    have h2 := zi0 h1
    rw [z6d] at hall
    have e : (!(w.all fun r => decide (r < 0) || b.getD r.toNat false)) = decide ((k : Int) ≥ 0) := by
      have : w.all q = false := by simpa using hall
      rw [show (w.all fun r => decide (r < 0) || b.getD r.toNat false) = false from this]; simp
    rw [e]
    exact h2
structure RowsP (N : List (List Int)) : Prop where
  l16 : N.length ≤ 16
  short : ∀ i, i < N.length → (N.getD i []).length ≤ 8
  below : ∀ i, i < N.length → ∀ a, a < (N.getD i []).length → (N.getD i []).getD a 0 < N.length
theorem AutP.rowsP {n s f : Int} {N : List (List Int)} (h : AutP n s f N) : RowsP N :=
  ⟨h.l16, fun i hi => by have := (h.rows i hi).1; have := h.n8; omega, fun i hi a ha => by have := ((h.rows i hi).2 a ha).2; omega⟩
theorem zj3 {l : List Bool} {n : Nat} (h : l.length = n) : List.take n (List.drop 0 l) = l := by
  rw [List.drop_zero, ← h, List.take_length]
theorem zt3 {n s : Int} {fs : List Bool} {N : List (List Int)} (h : RowsP N) : Runs X F.z11 [maD n s fs N] [] (boolR (endsB N)) := by
  have hl := h.l16
  have inner : ∀ d : List Bool, d.length = N.length → WL F.z11 2 Tryd.f59 1 (z25 n s fs N false 0 d) (z8g n s fs N (passE N d).2 (passE N d).1) := by
    intro d hd
    refine loop_to (N := N.length) (st := fun j => z25 n s fs N (foldE N d j).2 j (foldE N d j).1) (fun j hj Q hqq => ?_) (fun Q hqq => ?_)
    · have hlen : (foldE N d j).1.length = N.length := by rw [z4t, hd]
      have ht := zj3 hlen
      have c1 := zsn (w := N.getD j []) (b := (foldE N d j).1) (by have := h.short j hj; unfold B40; omega) (fun a ha => by rw [hlen]; exact h.below j hj a ha)
      rw [z6y] at hqq
      unfold stepE at hqq
      by_cases hdone : (foldE N d j).1.getD j false = true
      · rw [if_neg (by rw [hdone]; simp)] at hqq
        apply znu
        case hq => exact hqq
        all_goals first | (rw [Nat.zero_add]; exact hdone) | omega
      · have hdone : (foldE N d j).1.getD j false = false := by simpa using hdone
        by_cases hok : okE N (foldE N d j).1 j = true
        · rw [if_pos ⟨hdone, hok⟩] at hqq
          unfold okE at hok
          rw [hok] at c1
          apply zns (b7 := false)
          case hq => rw [Nat.zero_add]; exact hqq
          case c8 => rw [ht]; exact c1
          all_goals first | (rw [Nat.zero_add]; exact hdone) | omega | rfl
        · rw [if_neg (fun hh => hok hh.2)] at hqq
          have hok : okE N (foldE N d j).1 j = false := by simpa using hok
          unfold okE at hok
          rw [hok] at c1
          apply znt (b7 := true)
          case hq => exact hqq
          case c8 => rw [ht]; exact c1
          all_goals first | (rw [Nat.zero_add]; exact hdone) | omega | rfl
    · have hlen : (foldE N d N.length).1.length = N.length := by rw [z4t, hd]
      apply znv
      case hq => exact hqq
      all_goals omega
  have outer : ∀ (k : Nat) (d : List Bool), d.length = N.length → d.count false < k → WL F.z11 0 Tryd.f59 0 (z4z n s fs N true d) (z78 N (fixE N k d)) := by
    intro k
    induction k with
    | zero => intro d hd hk; omega
    | succ k ih =>
      intro d hd hk
      have hlen : (passE N d).1.length = N.length := by rw [z7h, hd]
      have hc := zbd N d hd N.length (Nat.le_refl _)
      apply znq
      case l13 => exact inner d hd
      case hq =>
        unfold fixE
        cases hp : (passE N d).2 with
        | true =>
          rw [if_pos rfl]
          refine ih _ hlen ?_
          unfold passE at hp
          rw [hp, if_pos rfl] at hc
          unfold passE; omega
        | false =>
          rw [if_neg (by simp)]
          apply znr
          case hq => rfl
          all_goals first | rfl | omega
      all_goals first | omega | rfl
  have hlast : (lastE N).length = N.length := by unfold lastE; rw [z83]; simp [noneE]
  have hc := zsr (lastE N) false (by unfold B40; omega)
  have ho : WL F.z11 0 Tryd.f59 0 (z4z n s fs N true (noneE N)) (z78 N (lastE N)) := outer (N.length + 1) (noneE N) (by simp [noneE]) (by unfold noneE; rw [List.count_replicate]; simp)
  have e : endsB N = !(!((lastE N).all fun x => x != false)) := by
    unfold endsB; rw [Bool.not_not]; congr 1; funext x; cases x <;> rfl
  rw [e]
  apply znp
  case l15 => exact ho
  case c18 => rw [zj3 hlast]; exact hc
  all_goals first | omega | (show 0 + N.length ≤ (lastE N).length; omega)
theorem ztj {n s f : Int} {N : List (List Int)} (h : AutP n s f N) : Runs X F.zk [auD n s f N] [] (boolR (endsB N)) := by
  have hl := h.l16
  have inner2 : ∀ (d : List Bool) (c : Bool) (j : Nat), d.length = N.length → j < N.length → WL F.zk 4 Tryd.f54 2 (z1v n s f N (mOf d) c j (d.getD j false) 0) (z6p n s f N (mOf d) c j (d.getD j false || !(okE N d j))) := by
    intro d c j hd hj
    obtain ⟨hr, hb⟩ := h.rows j hj
    have hn8 := h.n8
    have hmd := mOf_lt d
    have h62 : (2 : Nat) ^ d.length ≤ 2 ^ 16 := Nat.pow_le_pow_right (by omega) (by omega)
    let p : Nat → Bool := fun a => decide ((N.getD j []).getD a 0 < 0) || d.getD ((N.getD j []).getD a 0).toNat false
    have he : (d.getD j false || !(okE N d j)) = (d.getD j false || !((List.range (N.getD j []).length).all p)) := by
      unfold okE; rw [← z6d]
    rw [he]
    have e0 : d.getD j false = (d.getD j false || !((List.range 0).all p)) := by simp
    suffices this : WL F.zk 4 Tryd.f54 2 (z1v n s f N (mOf d) c j (d.getD j false || !((List.range 0).all p)) 0) (z6p n s f N (mOf d) c j (d.getD j false || !((List.range (N.getD j []).length).all p))) by
      rw [← e0] at this; exact this
    refine loop_to (N := (N.getD j []).length) (st := fun i => z1v n s f N (mOf d) c j (d.getD j false || !((List.range i).all p)) i) (fun i hi Q hqq => ?_) (fun Q hqq => ?_)
    · have hbi := hb i hi
      have hall : (List.range (i + 1)).all p = ((List.range i).all p && p i) := by rw [List.range_succ, List.all_append]; simp
      rw [hall] at hqq
      cases hleft : (d.getD j false || !((List.range i).all p)) with
      | true =>
        have : (d.getD j false || !((List.range i).all p && p i)) = true := by
          revert hleft; cases d.getD j false <;> cases (List.range i).all p <;> simp
        rw [this] at hqq
        apply zxk
        case hq => exact hqq
        all_goals first | rfl | omega
      | false =>
        have hleft' : (d.getD j false || !((List.range i).all p && p i)) = !p i := by
          revert hleft; cases d.getD j false <;> cases (List.range i).all p <;> simp
        rw [hleft'] at hqq
        by_cases h0 : (N.getD j []).getD i 0 ≥ 0
        · have c1 := z4i (m := mOf d) (i := ((N.getD j []).getD i 0).toNat) (by omega) (by omega)
          rw [show (((N.getD j []).getD i 0).toNat : Int) = (N.getD j []).getD i 0 by omega] at c1
          have hp : p i = tb (mOf d) ((N.getD j []).getD i 0) := by
            show (decide ((N.getD j []).getD i 0 < 0) || d.getD ((N.getD j []).getD i 0).toNat false) = _
            rw [decide_eq_false (by omega), Bool.false_or]
            unfold tb
            rw [Int.toNat_natCast, mOf_bit]
          rw [hp] at hqq
          apply zxl
          case hq => exact hqq
          all_goals first | exact c1 | rfl | omega
        · have hp : p i = true := by
            show (decide ((N.getD j []).getD i 0 < 0) || d.getD ((N.getD j []).getD i 0).toNat false) = _
            rw [decide_eq_true (by omega)]; rfl
          rw [hp] at hqq
          apply zxm
          case hq => exact hqq
          all_goals first | rfl | omega
    · apply zxn
      case hq => exact hqq
      all_goals omega
  have inner : ∀ d : List Bool, d.length = N.length → WL F.zk 2 Tryd.f54 1 (z3b n s f N (mOf d) false 0) (za7 n s f N (mOf (passE N d).1) (passE N d).2) := by
    intro d hd
    refine loop_to (N := N.length) (st := fun j => z3b n s f N (mOf (foldE N d j).1) (foldE N d j).2 j) (fun j hj Q hqq => ?_) (fun Q hqq => ?_)
    · have hlen : (foldE N d j).1.length = N.length := by rw [z4t, hd]
      have hmd := mOf_lt (foldE N d j).1
      have h62 : (2 : Nat) ^ (foldE N d j).1.length ≤ 2 ^ 16 := Nat.pow_le_pow_right (by omega) (by omega)
      have c1 := z4i (m := mOf (foldE N d j).1) (i := j) (by omega) (by omega)
      have hbit : tb (mOf (foldE N d j).1) j = (foldE N d j).1.getD j false := by unfold tb; rw [Int.toNat_natCast, Int.toNat_natCast, mOf_bit]
      rw [hbit] at c1
      have l1 := inner2 (foldE N d j).1 (foldE N d j).2 j hlen hj
      rw [z6y] at hqq
      unfold stepE at hqq
      by_cases hc : (foldE N d j).1.getD j false = false ∧ okE N (foldE N d j).1 j = true
      · rw [if_pos hc] at hqq
        rw [hc.1, hc.2] at l1
        rw [hc.1] at c1
        have c2 := z5g (i := j) (by omega)
        have hor : ior (mOf (foldE N d j).1 : Int) ((2 ^ j : Nat) : Int) = ((mOf ((foldE N d j).1.set j true) : Nat) : Int) := by
          rw [ior_nat (by omega) (pow62 (by omega)), mOf_set (by omega)]
        apply zxh
        case hq => rw [hor]; exact hqq
        all_goals first | exact c1 | exact l1 | exact c2 | rfl | omega
      · rw [if_neg hc] at hqq
        have hv : ((foldE N d j).1.getD j false || !(okE N (foldE N d j).1 j)) = true := by
          cases h1 : (foldE N d j).1.getD j false
          · cases h2 : okE N (foldE N d j).1 j
            · rfl
            · exact (hc ⟨h1, h2⟩).elim
          · rfl
        rw [hv] at l1
        apply zxi
        case hq => exact hqq
        all_goals first | exact c1 | exact l1 | rfl | omega
    · apply zxj
      case hq => exact hqq
      all_goals omega
  have outer : ∀ (k : Nat) (d : List Bool), d.length = N.length → d.count false < k → WL F.zk 0 Tryd.f54 0 (z6q n s f N (mOf d) true) (za6 n s f N (mOf (fixE N k d))) := by
    intro k
    induction k with
    | zero => intro d hd hk; omega
    | succ k ih =>
      intro d hd hk
      have hlen : (passE N d).1.length = N.length := by rw [z7h, hd]
      have hc := zbd N d hd N.length (Nat.le_refl _)
      apply zxf
      case l25 => exact inner d hd
      case hq =>
        unfold fixE
        cases hp : (passE N d).2 with
        | true =>
          rw [if_pos rfl]
          refine ih _ hlen ?_
          unfold passE at hp
          rw [hp, if_pos rfl] at hc
          unfold passE; omega
        | false =>
          rw [if_neg (by simp)]
          apply zxg
          case hq => rfl
          all_goals first | rfl | omega
      all_goals first | omega | rfl
  have hlast : (lastE N).length = N.length := by unfold lastE; rw [z83]; simp [noneE]
  have ho := outer (N.length + 1) (noneE N) (by simp [noneE]) (by unfold noneE; rw [List.count_replicate]; simp)
  rw [zgb] at ho
  have c := z7j (i := N.length) (by omega)
  have e : endsB N = ((mOf (lastE N) : Int) == (((2 ^ N.length : Nat) : Int) - 1)) := by
    unfold endsB
    rw [Bool.eq_iff_iff, ← zri, beq_iff_eq, hlast]
    have := Nat.two_pow_pos N.length
    omega
  rw [e]
  apply zxe
  case l27 => exact ho
  case c29 => exact c
end Go.PR.S

end

section
set_option maxRecDepth 20000
namespace Go.PR.S
open Go Go.PR Go.Proofs
theorem zck (n s f m : Int) (N : List (List Int)) (row : List Int) (hl : row.length ≤ B40) (h0 : 0 ≤ m) (h1 : m ≤ B40) : Runs X F.z1o [lD row, .pim [iD n, iD s, iD f, .imm2 .i64 N], .pim [iD m]] [] (boolR (!(rowOK n m row))) := by
  by_cases h : (row.length : Int) = n
  · have c := zh9 row (-1) (m - 1) hl
    have : (!(rowOK n m row)) = !(row.all fun x => decide (-1 ≤ x ∧ x ≤ m - 1)) := by unfold rowOK; rw [decide_eq_true h, Bool.true_and]
    rw [this]
    unfold B40 at h1
    exact zll h (by omega) (by omega) c
  · have : (!(rowOK n m row)) = true := by unfold rowOK; rw [decide_eq_false h]; rfl
    rw [this]
    exact zlk h
theorem zso (n s f m : Int) (N w : List (List Int)) (hl : w.length ≤ B40) (hw : ∀ r ∈ w, r.length ≤ B40) (h0 : 0 ≤ m) (hm : m ≤ B40) : Runs X F.z9o [.imm2 .i64 w, .fn F.z1o [.pim [iD n, iD s, iD f, .imm2 .i64 N], .pim [iD m]]] [] (boolR (!(w.all (rowOK n m)))) := by
  let q : List Int → Bool := rowOK n m
  have hmem : ∀ j, j < w.length → (w.getD j []).length ≤ B40 := fun j hj => hw _ (by rw [getR_lt hj]; exact List.getElem_mem hj)
  by_cases hall : w.all q = true
  · have h1 : Runs X F.z2h [.imm2 .i64 w, .fn F.z1o [.pim [iD n, iD s, iD f, .imm2 .i64 N], .pim [iD m]]] [] (intR (-1)) := by
      refine zun (loop_to (N := w.length) (st := fun i => z3x n s f m N w i) (fun i hi Q hqq => ?_) (fun Q hqq => ?_))
      · have c1 := zck n s f m N (w.getD i []) (hmem i hi) h0 hm
        have hx : q (w.getD i []) = true := by rw [getR_lt hi]; exact List.all_eq_true.1 hall _ (List.getElem_mem hi)
        apply zi3
        case hq => exact hqq
        all_goals first | exact c1 | (show (!q (w.getD i [])) = false; rw [hx]; rfl) | (unfold B40 at hl; omega)
      · apply zup
        case hq => exact hqq
        all_goals (unfold B40 at hl; omega)
    rw [show (w.all (rowOK n m)) = true from hall]
    exact zhw h1
  · rw [← zcg] at hall
    obtain ⟨k, hk1, hk2, hk3⟩ := z3g hall
    have h1 : Runs X F.z2h [.imm2 .i64 w, .fn F.z1o [.pim [iD n, iD s, iD f, .imm2 .i64 N], .pim [iD m]]] [] (intR k) := by
      refine zum (loop_to (N := k) (st := fun i => z3x n s f m N w i) (fun i hi Q hqq => ?_) (fun Q hqq => ?_))
      · have c1 := zck n s f m N (w.getD i []) (hmem i (by omega)) h0 hm
        have hx := hk3 i hi
        apply zi3
        case hq => exact hqq
        all_goals first | exact c1 | (show (!q (w.getD i [])) = false; rw [hx]; rfl) | (unfold B40 at hl; omega)
      · have c1 := zck n s f m N (w.getD k []) (hmem k (by omega)) h0 hm
        apply zuo
        case hq => exact hqq
        all_goals first | exact c1 | (show (!q (w.getD k [])) = true; rw [hk2]; rfl) | (unfold B40 at hl; omega)
    have h2 := zhw h1
    rw [zcg] at hall
    have e : (!(w.all (rowOK n m))) = decide ((k : Int) ≥ 0) := by
      have : w.all q = false := by simpa using hall
      rw [show (w.all (rowOK n m)) = false from this]; simp
    rw [e]
    exact h2
theorem zst (n s f : Int) (N : List (List Int)) (hl : N.length ≤ B40) (hw : ∀ r ∈ N, r.length ≤ B40) : Runs X F.z4b [auD n s f N] [] (boolR (autOK n s f N)) := by
  have hl' := hl
  unfold B40 at hl'
  have c1 := z5f n 0 8
  have c2 := z5f (N.length : Int) 1 16
  have c3 := z5f s 0 ((N.length : Int) - 1)
  unfold autOK
  by_cases h1 : 0 ≤ n ∧ n ≤ 8
  · rw [decide_eq_true h1] at c1 ⊢
    by_cases h2 : 1 ≤ (N.length : Int) ∧ (N.length : Int) ≤ 16
    · rw [decide_eq_true h2] at c2 ⊢
      by_cases h3 : 0 ≤ s ∧ s ≤ (N.length : Int) - 1
      · rw [decide_eq_true h3] at c3 ⊢
        have c4 := zsu (N := N.length) (by omega) f
        by_cases h4 : 0 ≤ f ∧ f ≤ ((2 ^ N.length : Nat) : Int) - 1
        · rw [decide_eq_true h4] at c4 ⊢
          have c5 := zso n s f N.length N N hl hw (by omega) (by unfold B40; omega)
          have := zlj c1 rfl c2 rfl (by omega) c3 rfl c4 rfl c5
          rw [Bool.not_not] at this
          exact this
        · rw [decide_eq_false h4] at c4 ⊢
          exact zli c1 rfl c2 rfl (by omega) c3 rfl c4 rfl
      · rw [decide_eq_false h3] at c3 ⊢
        exact zlh c1 rfl c2 rfl (by omega) c3 rfl
    · rw [decide_eq_false h2] at c2 ⊢
      exact zlg c1 rfl c2 rfl
  · rw [decide_eq_false h1] at c1 ⊢
    exact zlf c1 rfl
theorem ztg (n s f : Int) (N : List (List Int)) (hl : N.length ≤ B40) : Runs X F.zm [auD n s f N] [] (boolR (autOK n s f N)) := by
  have hl' := hl
  unfold B40 at hl'
  have c1 := z2g n 0 8
  have c2 := z2g (N.length : Int) 1 16
  have c3 := z2g s 0 ((N.length : Int) - 1)
  unfold autOK
  by_cases h1 : 0 ≤ n ∧ n ≤ 8
  · rw [decide_eq_true h1] at c1 ⊢
    by_cases h2 : 1 ≤ (N.length : Int) ∧ (N.length : Int) ≤ 16
    · rw [decide_eq_true h2] at c2 ⊢
      by_cases h3 : 0 ≤ s ∧ s ≤ (N.length : Int) - 1
      · rw [decide_eq_true h3] at c3 ⊢
        have c4 := z7j (i := N.length) (by omega)
        have c5 := z2g f 0 (((2 ^ N.length : Nat) : Int) - 1)
        by_cases h4 : 0 ≤ f ∧ f ≤ ((2 ^ N.length : Nat) : Int) - 1
        · rw [decide_eq_true h4] at c5 ⊢
          have hn8 := h1.2
          have hln := h2.2
          let p : Nat → Bool := fun i => rowOK n N.length (N.getD i [])
          have lp : WL F.zm 0 Tryd.f53 0 (z3a n s f N 0) (if (List.range N.length).all p then za2 else z6o) := by
            refine z2t (N := N.length) (p := p) (st := fun i => z3a n s f N i) (fun i hi hp Q hqq => ?_) (fun i hi hp Q hqq => ?_) (fun Q hqq => ?_)
            · have hp' : rowOK n N.length (N.getD i []) = true := hp
              unfold rowOK at hp'
              rw [Bool.and_eq_true, decide_eq_true_eq] at hp'
              have l1 : WL F.zm 2 Tryd.f53 1 (z2z n s f N i 0) (za4 n s f N i) := by
                refine loop_to (N := (N.getD i []).length) (st := fun j => z2z n s f N i j) (fun j hj Q hqq => ?_) (fun Q hqq => ?_)
                · have c := z2g ((N.getD i []).getD j 0) (-1) ((N.length : Int) - 1)
                  have hx : decide (-1 ≤ (N.getD i []).getD j 0 ∧ (N.getD i []).getD j 0 ≤ (N.length : Int) - 1) = true := by
                    rw [getD_lt hj]; exact List.all_eq_true.1 hp'.2 _ (List.getElem_mem hj)
                  rw [hx] at c
                  apply zil
                  case hq => exact hqq
                  all_goals first | exact c | rfl | omega
                · apply zwy
                  case hq => exact hqq
                  all_goals omega
              apply zwv
              case hq => exact hqq
              all_goals first | exact l1 | omega
            · have hp' : rowOK n N.length (N.getD i []) = false := hp
              unfold rowOK at hp'
              by_cases hr : ((N.getD i []).length : Int) = n
              · rw [decide_eq_true hr, Bool.true_and, ← z6d] at hp'
                obtain ⟨k, hk1, hk2, hk3⟩ := z3g (by rw [hp']; simp)
                have l1 : WL F.zm 2 Tryd.f53 1 (z2z n s f N i 0) (za3 n s f N i) := by
                  refine loop_to (N := k) (st := fun j => z2z n s f N i j) (fun j hj Q hqq => ?_) (fun Q hqq => ?_)
                  · have c := z2g ((N.getD i []).getD j 0) (-1) ((N.length : Int) - 1)
                    rw [hk3 j hj] at c
                    apply zil
                    case hq => exact hqq
                    all_goals first | exact c | rfl | omega
                  · have c := z2g ((N.getD i []).getD k 0) (-1) ((N.length : Int) - 1)
                    rw [hk2] at c
                    apply zwx
                    case hq => exact hqq
                    all_goals first | exact c | rfl | omega
                apply zwu
                case hq => exact hqq
                all_goals first | exact l1 | omega
              · apply zwt
                case hq => exact hqq
                all_goals first | exact hr | omega
            · apply zww
              case hq => exact hqq
              all_goals omega
          have hrange : (List.range N.length).all p = N.all (rowOK n N.length) := zcg
          rw [hrange] at lp
          simp only [Bool.true_and]
          cases hr : N.all (rowOK n N.length) with
          | true => rw [hr, if_pos rfl] at lp; exact zws c1 rfl c2 rfl (by omega) c3 rfl c4 c5 rfl lp
          | false => rw [hr, if_neg (by simp)] at lp; exact zwr c1 rfl c2 rfl (by omega) c3 rfl c4 c5 rfl lp
        · rw [decide_eq_false h4] at c5 ⊢
          exact zwq c1 rfl c2 rfl (by omega) c3 rfl c4 c5 rfl
      · rw [decide_eq_false h3] at c3 ⊢
        exact zwp c1 rfl c2 rfl (by omega) c3 rfl
    · rw [decide_eq_false h2] at c2 ⊢
      exact zwo c1 rfl c2 rfl
  · rw [decide_eq_false h1] at c1 ⊢
    exact zwn c1 rfl
def finals (f : Int) (N : List (List Int)) : List Bool := (List.range N.length).map fun (i : Nat) => tb f i
theorem ztp {n s f : Int} {N : List (List Int)} (h : AutP n s f N) : Runs X F.z1r [auD n s f N] [] ⟨.agg [.int .i64 n, .int .i64 s, .rsl 600000 0 (finals f N).length, .imm2 .i64 N], [], [⟨true, .bools (finals f N)⟩]⟩ := by
  have hl := h.l16
  have hl1 := h.l1
  have hf0 := h.f0
  have hfl := h.fl
  have h62 : (2 : Nat) ^ N.length ≤ 2 ^ 16 := Nat.pow_le_pow_right (by omega) (by omega)
  obtain ⟨m, rfl⟩ : ∃ m : Nat, f = m := ⟨f.toNat, by omega⟩
  have hm : m < 2 ^ 63 := by omega
  have lp : ∀ (k i : Nat), i + k = N.length → 0 < i → WL F.z1r 0 Tryd.f58 0 (z4y n s m N i ((List.range i).map fun (i : Nat) => tb m i)) (z77 n s N (finals m N)) := by
    intro k
    induction k with
    | zero =>
      intro i hi h0
      obtain rfl : i = N.length := by omega
      apply znd
      case hq => rfl
      all_goals omega
    | succ k ih =>
      intro i hi h0
      have c := z7i (m := m) (i := i) hm
      have hq := ih (i + 1) (by omega) (by omega)
      rw [List.range_succ, List.map_append] at hq
      apply znc
      case hq => exact hq
      all_goals first | exact c | omega | (simp; omega)
  have c0 := z7i (m := m) (i := 0) hm
  have l0 : WL F.z1r 0 Tryd.f58 0 (zbi n s m N) (z77 n s N (finals m N)) := by
    apply znb
    case hq => exact lp (N.length - 1) 1 (by omega) (by omega)
    all_goals first | exact c0 | omega
  exact zna l0
def possM (N : List (List Int)) (q : Int) : Nat := mkM (fun a => decide ((N.getD q.toNat []).getD a 0 ≥ 0)) (N.getD q.toNat []).length
theorem z4j {n s : Int} {fs : List Bool} {N : List (List Int)} {q : Int} (h : RowsP N) (h0 : 0 ≤ q) (hq : q < N.length) : Runs X F.z9 [maD n s fs N, iD q] [] (intR (possM N q)) := by
  have hs := h.short q.toNat (by omega)
  let g : Nat → Bool := fun a => decide ((N.getD q.toNat []).getD a 0 ≥ 0)
  have lp : WL F.z9 0 Tryd.f97 0 (z32 N q 0 0) (z8o (possM N q)) := by
    refine loop_to (N := (N.getD q.toNat []).length) (st := fun i => z32 N q (mkM g i : Nat) i) (fun i hi Q hqq => ?_) (fun Q hqq => ?_)
    · have hm := mkM_lt g i
      have h62 : (2 : Nat) ^ i ≤ 2 ^ 16 := Nat.pow_le_pow_right (by omega) (by omega)
      by_cases hg : (N.getD q.toNat []).getD i 0 ≥ 0
      · have e : mkM g (i + 1) = mkM g i ||| 2 ^ i := by show mkM g i ||| (if g i then 2 ^ i else 0) = _; rw [if_pos (decide_eq_true hg)]
        rw [e, ← ior_nat (by omega) (pow62 (i := i) (by omega))] at hqq
        have c := z5h (i := i) (by omega)
        apply zoq
        case hq => exact hqq
        all_goals first | omega | exact c
      · have e : mkM g (i + 1) = mkM g i := by
          have hgf : g i = false := decide_eq_false hg
          rw [mkM, hgf]; simp
        rw [e] at hqq
        apply zor
        case hq => exact hqq
        all_goals omega
    · apply zos
      case hq => exact hqq
      all_goals omega
  exact zop h0 hq lp
theorem z9m {n s f : Int} {N : List (List Int)} {q : Int} (h : AutP n s f N) (h0 : 0 ≤ q) (hq : q < N.length) : Runs X F.zy [auD n s f N, iD q] [] (intR (possM N q)) := by
  have hs := h.rowsP.short q.toNat (by omega)
  have hr := (h.rows q.toNat (by omega)).1
  have hn8 := h.n8
  let g : Nat → Bool := fun a => decide ((N.getD q.toNat []).getD a 0 ≥ 0)
  have lp : WL F.zy 0 Tryd.f107 0 (z3c n s f N q 0 0) (zag (possM N q)) := by
    refine loop_to (N := (N.getD q.toNat []).length) (st := fun i => z3c n s f N q (mkM g i : Nat) i) (fun i hi Q hqq => ?_) (fun Q hqq => ?_)
    · have hm := mkM_lt g i
      have h62 : (2 : Nat) ^ i ≤ 2 ^ 16 := Nat.pow_le_pow_right (by omega) (by omega)
      by_cases hg : (N.getD q.toNat []).getD i 0 ≥ 0
      · have e : mkM g (i + 1) = mkM g i ||| 2 ^ i := by show mkM g i ||| (if g i then 2 ^ i else 0) = _; rw [if_pos (decide_eq_true hg)]
        rw [e, ← ior_nat (by omega) (pow62 (i := i) (by omega))] at hqq
        have c := z5g (i := i) (by omega)
        apply zyn
        case hq => exact hqq
        all_goals first | omega | exact c
      · have e : mkM g (i + 1) = mkM g i := by
          have hgf : g i = false := decide_eq_false hg
          rw [mkM, hgf]; simp
        rw [e] at hqq
        apply zyo
        case hq => exact hqq
        all_goals omega
    · apply zyp
      case hq => exact hqq
      all_goals omega
  exact zym lp
end Go.PR.S

end

section
set_option maxRecDepth 20000
namespace Go.PR.S
open Go Go.PR Go.Proofs
def marks (k : Int) (n : Nat) : List Int := (List.range n).map fun i : Nat => k + (i : Int)
theorem z3s (k : Int) (n : Nat) : (marks k n).length = n := by unfold marks; simp
theorem zgi (k : Int) (n : Nat) : marks k (n + 1) = marks k n ++ [k + n] := by
  unfold marks
  rw [List.range_succ, List.map_append]
  rfl
theorem zrj (k : Int) {n i : Nat} (h : i < n) : (marks k n).getD i 0 = k + i := by
  unfold marks
  rw [List.getD_eq_getElem?_getD, List.getElem?_map, List.getElem?_range h]
  rfl
abbrev passR (r : Int) (xs : List Int) : Ret := ⟨.int .i64 r, [some ⟨true, .ints .i64 xs⟩], []⟩
theorem zts (xs : List Int) (k : Int) (hl : xs.length ≤ B40) (h0 : 0 ≤ k) (hk : k ≤ 4 * B40) :
    Runs X F.z1d [.rsl 500000 0 xs.length, iD k] [⟨true, .ints .i64 xs⟩] (passR (k + xs.length) (marks k xs.length)) := by
  unfold B40 at hl hk
  refine zqk ?_
  have key := loop_to (f := F.z1d) (b := 0) (body := lb Tryd.f98 0) (N := xs.length) (o := z96 (k + xs.length) (marks k xs.length)) (st := fun i => z67 xs (k + i) i (marks k i ++ xs.drop i)) (fun i hi Q hq => ?_) (fun Q hq => ?_)
  · simpa [marks] using key
  · have e : (marks k i ++ xs.drop i).set (0 + i) (k + i) = marks k (i + 1) ++ xs.drop (i + 1) := by
      rw [Nat.zero_add, List.set_append_right _ _ (by rw [z3s]; exact Nat.le_refl _), z3s, Nat.sub_self, zgi, List.drop_eq_getElem_cons hi, List.set_cons_zero, List.append_assoc]
      rfl
    apply zql
    case hq => rw [e, show k + (i : Int) + 1 = k + ((i + 1 : Nat) : Int) by omega]; exact hq
    all_goals first | (rw [List.length_append, z3s, List.length_drop]; omega) | omega
  · apply zqm
    case hq => simpa using hq
    all_goals first | (rw [List.length_append, z3s, List.length_drop]; omega) | omega
theorem ztq (n : Int) (xs : List Int) (k : Int) (hl : xs.length ≤ B40) (h0 : 0 ≤ k) (hk : k ≤ 4 * B40) :
    Runs X F.z92 [.agg [iD n, .rsl 500000 0 xs.length], iD k] [⟨true, .ints .i64 xs⟩] (passR (k + xs.length) (marks k xs.length)) :=
  zq8 (zts xs k hl h0 hk)
theorem zt8 (k : Int) (n : Nat) (hl : n ≤ B40) (h0 : 0 ≤ k) (hk : k ≤ 4 * B40) :
    Runs X F.z3p [lD (marks k n), iD k] [] (intR (k + n)) := by
  unfold B40 at hl hk
  refine zq4 ?_
  have key := loop_to (f := F.z3p) (b := 0) (body := lb Tryd.f99 0) (N := n) (o := z91 (k + n)) (st := fun i => z64 (marks k n) (k + i) i) (fun i hi Q hq => ?_) (fun Q hq => ?_)
  · simpa using key
  · apply zq5
    case hq => rw [show k + (i : Int) + 1 = k + ((i + 1 : Nat) : Int) by omega]; exact hq
    all_goals first | exact zrj k hi | (rw [z3s]; omega) | omega
  · apply zq6
    case hq => exact hq
    all_goals (rw [z3s]; omega)
end Go.PR.S

end
