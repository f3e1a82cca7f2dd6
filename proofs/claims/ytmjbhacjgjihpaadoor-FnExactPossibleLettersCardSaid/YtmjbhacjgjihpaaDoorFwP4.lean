/- The exploration's functions: what all of them use. -/
import Derived.Test.YtmjbhacjgjihpaaDoorFwG1
import Derived.Test.YtmjbhacjgjihpaaDoorFwMk
import Derived.Test.YtmjbhacjgjihpaaDoorFwG3
import Derived.Laws.Bits64
import Derived.Test.YtmjbhacjgjihpaaDoorGrB
set_option linter.unusedVariables false
set_option linter.unusedSimpArgs false
set_option linter.unusedSectionVars false
section
set_option maxRecDepth 20000
namespace Go.PR.S
open Go Go.PR Go.Proofs
theorem getD_lt {l : List Int} {i : Nat} (h : i < l.length) : l.getD i 0 = l[i] := by simp [List.getD_eq_getElem?_getD, h]
theorem z4g {f : FuncId} {b : Nat} {body : Code} {st : Nat → LSt} {p : Nat → Bool} {oF oT : OutL} {N : Nat}
    (hS : ∀ i, i < N → p i = true → ∀ Q, WpL X f b body (st (i + 1)).st Q → WpL X f b body (st i).st Q)
    (hF : ∀ i, i < N → p i = false → ∀ Q : Out → Prop, Q oF.out → WpL X f b body (st i).st Q)
    (hE : ∀ Q : Out → Prop, Q oT.out → WpL X f b body (st N).st Q) :
    WpL X f b body (st 0).st (fun o => o = (if (List.range N).all p then oT else oF).out) := by
  have key : ∀ (n i : Nat), i + n = N → (∀ j, j < i → p j = true) → WpL X f b body (st i).st (fun o => o = (if (List.range N).all p then oT else oF).out) := by
    intro n
    induction n with
    | zero =>
      intro i hi hp
      obtain rfl : i = N := by omega
      have : (List.range i).all p = true := List.all_eq_true.2 fun j hj => hp j (List.mem_range.1 hj)
      rw [if_pos this]
      exact hE _ rfl
    | succ n ih =>
      intro i hi hp
      cases hpi : p i with
      | true =>
        refine hS i (by omega) hpi _ (ih (i + 1) (by omega) fun j hj => ?_)
        by_cases e : j = i
        · rw [e]; exact hpi
        · exact hp j (by omega)
      | false =>
        have : ¬ (List.range N).all p = true := fun h => by
          have := List.all_eq_true.1 h i (List.mem_range.2 (by omega))
          rw [hpi] at this; cases this
        rw [if_neg this]
        exact hF i (by omega) hpi _ rfl
  exact key N 0 (by omega) fun j hj => by omega
theorem loop_to {f : FuncId} {b : Nat} {body : Code} {st : Nat → LSt} {o : OutL} {N : Nat}
    (hS : ∀ i, i < N → ∀ Q, WpL X f b body (st (i + 1)).st Q → WpL X f b body (st i).st Q)
    (hE : ∀ Q : Out → Prop, Q o.out → WpL X f b body (st N).st Q) : WpL X f b body (st 0).st (fun x => x = o.out) := by
  have key : ∀ (n i : Nat), i + n = N → WpL X f b body (st i).st (fun x => x = o.out) := by
    intro n
    induction n with
    | zero => intro i hi; obtain rfl : i = N := by omega
              exact hE _ rfl
    | succ n ih => intro i hi; exact hS i (by omega) _ (ih (i + 1) (by omega))
  exact key N 0 (by omega)
theorem zkv {l : List Int} {q : Int → Bool} : (List.range l.length).all (fun i => q (l.getD i 0)) = l.all q := by
  rw [Bool.eq_iff_iff, List.all_eq_true, List.all_eq_true]
  constructor
  · intro h x hx
    obtain ⟨i, hi, rfl⟩ := List.getElem_of_mem hx
    have := h i (List.mem_range.2 hi)
    rwa [getD_lt hi] at this
  · intro h i hi
    have hi := List.mem_range.1 hi
    rw [getD_lt hi]
    exact h _ (List.getElem_mem hi)
theorem zcv {i : Nat} (h : i ≤ 62) : Runs X F.z52 [iD i] [] (intR ((2 ^ i : Nat) : Int)) := by
  have h1 := one_nat h
  have h2 := pow62 h
  rw [← h1]
  have h3 : ((2 ^ i : Nat) : Int) < ((2 ^ 63 : Nat) : Int) := Int.ofNat_lt.2 h2
  have h4 : (0 : Int) ≤ ((2 ^ i : Nat) : Int) := Int.natCast_nonneg _
  rw [← h1] at h3 h4
  exact zhy (by omega) (by omega) (by omega)
theorem z4j (n a b : Int) : Runs X F.z18 [iD n, iD a, iD b] [] (boolR (decide (a ≤ n ∧ n ≤ b))) := by
  by_cases h : a ≤ n
  · have : decide (a ≤ n ∧ n ≤ b) = decide (n ≤ b) := by simp [h]
    rw [this]; exact zhf h
  · have : decide (a ≤ n ∧ n ≤ b) = false := by simp [h]
    rw [this]; exact zhg h
end Go.PR.S

end

section
set_option maxRecDepth 20000
namespace Go.PR.S
open Go Go.PR Go.Proofs
theorem z9g {i : Nat} (h : i < 2 ^ 63) : IntKind.u64.wrap (i : Int) = i := by rw [IntKind.wrap_u64]; omega
theorem z35 (n a b : Int) : Runs X F.zo [iD n, iD a, iD b] [] (boolR (decide (a ≤ n ∧ n ≤ b))) := by
  by_cases h : a ≤ n
  · have : decide (a ≤ n ∧ n ≤ b) = decide (n ≤ b) := by simp [h]
    rw [this]; exact znb h
  · have : decide (a ≤ n ∧ n ≤ b) = false := by simp [h]
    rw [this]; exact znc h
theorem z8v {m i : Nat} (h : m < 2 ^ 63) (hi : i < 2 ^ 63) : Runs X F.z1s [iD m, iD i] [] (boolR (tb m i)) := by
  have e := z9g hi
  have := zn8 (a := (m : Int)) (b := (i : Int)) (by rw [e]; omega)
  rw [e, has_nat h] at this
  exact this
theorem zcs {i : Nat} (h : i ≤ 62) : Runs X F.z5c [iD i] [] (intR ((2 ^ i : Nat) : Int)) := by
  have h1 := one_nat h
  have h2 := pow62 h
  have e := z9g (i := i) (by omega)
  have h3 : ((2 ^ i : Nat) : Int) < ((2 ^ 63 : Nat) : Int) := Int.ofNat_lt.2 h2
  have h4 : (0 : Int) ≤ ((2 ^ i : Nat) : Int) := Int.natCast_nonneg _
  have := znj (a := (i : Int)) (by rw [e]; omega) (by rw [e, h1]; omega) (by rw [e, h1]; omega)
  rw [e, h1] at this
  exact this
theorem zcr {i : Nat} (h : i ≤ 62) : Runs X F.z2r [iD i] [] (intR (((2 ^ i : Nat) : Int) - 1)) := by
  have h2 := pow62 h
  have h3 : ((2 ^ i : Nat) : Int) < ((2 ^ 63 : Nat) : Int) := Int.ofNat_lt.2 h2
  have h4 : (0 : Int) ≤ ((2 ^ i : Nat) : Int) := Int.natCast_nonneg _
  exact zna (zcs h) (by omega) (by omega)
theorem z8u (n a b : Int) : Runs X F.z1j [iD n, .pim [iD a], .pim [iD b]] [] (boolR (!decide (a ≤ n ∧ n ≤ b))) := zh0 (z4j n a b)
theorem zcp (w : List Int) (a b : Int) (hl : w.length ≤ B40) : Runs X F.z24 [lD w, iD a, iD b] [] (boolR (w.all fun x => decide (a ≤ x ∧ x ≤ b))) := by
  let q : Int → Bool := fun x => decide (a ≤ x ∧ x ≤ b)
  by_cases hall : w.all q = true
  · have hq : ∀ j, j < w.length → q (w.getD j 0) = true := fun j hj => by rw [getD_lt hj]; exact List.all_eq_true.1 hall _ (List.getElem_mem hj)
    have h1 : Runs X F.z1q [lD w, .fn F.z1j [.pim [iD a], .pim [iD b]]] [] (intR (-1)) := by
      refine zmn (loop_to (N := w.length) (st := fun i => z2q w a b i) (fun i hi Q hqq => ?_) (fun Q hqq => ?_))
      · have c1 := z8u (w.getD i 0) a b
        have hx := hq i hi
        apply zdd
        case hq => exact hqq
        all_goals first | exact c1 | (show (!q (w.getD i 0)) = false; rw [hx]; rfl) | (unfold B40 at hl; omega)
      · apply zmp
        case hq => exact hqq
        all_goals (unfold B40 at hl; omega)
    have h2 := zdb h1
    have h3 := zb2 h2
    rw [hall]
    exact h3
  · -- the first that does not fit
    obtain ⟨k, hk1, hk2, hk3⟩ : ∃ k, k < w.length ∧ q (w.getD k 0) = false ∧ ∀ j, j < k → q (w.getD j 0) = true := by
      have : ∃ k, k < w.length ∧ q (w.getD k 0) = false := by
        rw [← zkv, List.all_eq_true] at hall
        simp only [List.mem_range] at hall
        obtain ⟨k, hk⟩ := Classical.not_forall.1 hall
        obtain ⟨h1, h2⟩ := Classical.not_imp.1 hk
        exact ⟨k, h1, by simpa using h2⟩
      obtain ⟨k, hk⟩ := this
      induction k using Nat.strongRecOn with
      | _ k ih =>
        by_cases h : ∃ j, j < k ∧ q (w.getD j 0) = false
        · obtain ⟨j, hj, hjq⟩ := h; exact ih j hj ⟨by omega, hjq⟩
        · refine ⟨k, hk.1, hk.2, fun j hj => ?_⟩
          cases hh : q (w.getD j 0) with
          | true => rfl
          | false => exact (h ⟨j, hj, hh⟩).elim
    have h1 : Runs X F.z1q [lD w, .fn F.z1j [.pim [iD a], .pim [iD b]]] [] (intR k) := by
      refine zmm (loop_to (N := k) (st := fun i => z2q w a b i) (fun i hi Q hqq => ?_) (fun Q hqq => ?_))
      · have c1 := z8u (w.getD i 0) a b
        have hx := hk3 i hi
        apply zdd
        case hq => exact hqq
        all_goals first | exact c1 | (show (!q (w.getD i 0)) = false; rw [hx]; rfl) | (unfold B40 at hl; omega)
      · have c1 := z8u (w.getD k 0) a b
        apply zmo
        case hq => exact hqq
        all_goals first | exact c1 | (show (!q (w.getD k 0)) = true; rw [hk2]; rfl) | (unfold B40 at hl; omega)
    have h2 := zdb h1
    have h3 := zb2 h2
    have e : w.all q = (!decide ((k : Int) ≥ 0)) := by simp at hall ⊢; simpa using hall
    rw [e]
    exact h3
end Go.PR.S

end

section
set_option maxRecDepth 20000
namespace Go.PR.S
open Go Go.PR Go.Proofs Gp
theorem X_prim : X.prim = prim := rfl
theorem zfu {X : Ctx} {f : FuncId} {args : List D} {prows : List Row} {r : Ret} (h : X.prim f args prows = some r) (k : Nat) : evalFn X (k + 1) f args prows = some r := by
  simp only [evalFn, h]
abbrev WL (f : FuncId) (b : Nat) (fn : Func) (k : Nat) (s : LSt) (o : OutL) : Prop := WpL X f b (lb fn k) s.st (fun x => x = o.out)
theorem Runs.prim {X : Ctx} {f : FuncId} {args : List D} {prows : List Row} {r : Ret} (h : X.prim f args prows = some r) : Runs X f args prows r :=
  ⟨1, fun k hk => by obtain ⟨k, rfl⟩ : ∃ k', k = k' + 1 := ⟨k - 1, by omega⟩; exact zfu h k⟩
theorem prim_tz {x : Int} (h : 0 ≤ x ∧ x < 18446744073709551616) : prim F.z4x [.int .u64 x] [] = some (intR (Lib.ctz 64 x.toNat)) := by
  unfold prim
  rw [if_neg (by decide), if_pos rfl]
  exact if_pos h
theorem zm3 {m : Nat} (h : m < 2 ^ 63) : Runs X F.z4x [.int .u64 (m : Int)] [] (intR (Lib.ctz 64 m)) := by
  have hp := prim_tz (x := (m : Int)) ⟨by omega, by omega⟩
  rw [Int.toNat_natCast] at hp
  rw [← X_prim] at hp
  exact Runs.prim hp
theorem zcu {m : Nat} (h : m < 2 ^ 63) : Runs X F.z1z [iD m] [] (rowR (bitsL m)) := by
  have loop : ∀ (n k : Nat) (r : List Int), (bitsN k).length = n → k < 2 ^ 63 → r ++ bitsL k = bitsL m → r.length ≤ 63 →
      WL F.z1z 0 Tryd.f83 0 (z4a k r) (z5q (bitsL m)) := by
    intro n
    induction n with
    | zero =>
      intro k r hn hk he hr
      by_cases h0 : k = 0
      · subst h0
        rw [z9w, List.append_nil] at he
        subst he
        apply zb9
        case hq => rfl
        all_goals rfl
      · rw [z79 h0 hk] at hn; cases hn
    | succ n ih =>
      intro k r hn hk he hr
      by_cases h0 : k = 0
      · subst h0
        rw [z9w, List.append_nil] at he
        subst he
        apply zb9
        case hq => rfl
        all_goals rfl
      · have h1 : (k : Int) - 1 = ((k - 1 : Nat) : Int) := by omega
        have h2 : iand (k : Int) ((k : Int) - 1) = ((k &&& (k - 1) : Nat) : Int) := by rw [h1]; exact zaz hk (by omega)
        have hk' : k &&& (k - 1) < 2 ^ 63 := Nat.lt_of_le_of_lt Nat.and_le_left hk
        have hb := zew h0 hk
        have hlen : (r ++ bitsL k).length ≤ 63 := by
          rw [he]; unfold bitsL bitsN
          rw [List.length_map]
          exact Nat.le_trans (List.length_filter_le _ _) (by simp)
        rw [hb] at hlen
        apply zhw
        case hq =>
          rw [h2]
          refine ih _ _ ?_ hk' ?_ ?_
          · rw [z79 h0 hk] at hn; simpa using hn
          · rw [hb] at he; rw [List.append_assoc]; exact he
          · simp at hlen ⊢; omega
        all_goals first | omega | (rw [z9g (by omega)]; exact zm3 hk)
  exact zhv (loop _ m [] rfl h (by simp) (by simp))
end Go.PR.S

end

section
namespace Go.PR.S
open Go Go.PR Go.Proofs
theorem getR_lt {N : List (List Int)} {i : Nat} (h : i < N.length) : N.getD i [] = N[i] := by simp [List.getD_eq_getElem?_getD, h]
def okE (N : List (List Int)) (done : List Bool) (s : Nat) : Bool := (N.getD s []).all fun r => decide (r < 0) || done.getD r.toNat false
def stepE (N : List (List Int)) (st : List Bool × Bool) (s : Nat) : List Bool × Bool :=
  if st.1.getD s false = false ∧ okE N st.1 s = true then (st.1.set s true, true) else st
def foldE (N : List (List Int)) (done : List Bool) (j : Nat) : List Bool × Bool := (List.range j).foldl (stepE N) (done, false)
def passE (N : List (List Int)) (done : List Bool) : List Bool × Bool := foldE N done N.length
def fixE (N : List (List Int)) : Nat → List Bool → List Bool
  | 0, d => d
  | k + 1, d => if (passE N d).2 = true then fixE N k (passE N d).1 else (passE N d).1
def noneE (N : List (List Int)) : List Bool := List.replicate N.length false
def lastE (N : List (List Int)) : List Bool := fixE N (N.length + 1) (noneE N)
def endsB (N : List (List Int)) : Bool := (lastE N).all id
theorem getD_set_true {d : List Bool} {s : Nat} (h : s < d.length) (i : Nat) : (d.set s true).getD i false = if s = i then true else d.getD i false := by
  rw [List.getD_eq_getElem?_getD, List.getD_eq_getElem?_getD, List.getElem?_set]
  by_cases e : s = i
  · rw [if_pos e, if_pos e, if_pos h]; rfl
  · rw [if_neg e, if_neg e]
def finB (N : List (List Int)) : Nat → Nat → Bool
  | 0, _ => false
  | k + 1, s => (N.getD s []).all fun r => decide (r < 0) || finB N k r.toNat
def InvE (N : List (List Int)) (d : List Bool) : Prop := ∀ t, d.getD t false = true → finB N (d.count true) t = true
def mOf (d : List Bool) : Nat := mkM (fun i => d.getD i false) d.length
structure AutP (n s f : Int) (N : List (List Int)) : Prop where
  n0 : 0 ≤ n
  n8 : n ≤ 8
  l1 : 1 ≤ N.length
  l16 : N.length ≤ 16
  s0 : 0 ≤ s
  sl : s < N.length
  f0 : 0 ≤ f
  fl : f ≤ ((2 ^ N.length : Nat) : Int) - 1
  rows : ∀ i, i < N.length → ((N.getD i []).length : Int) = n ∧ ∀ a, a < (N.getD i []).length → -1 ≤ (N.getD i []).getD a 0 ∧ (N.getD i []).getD a 0 ≤ (N.length : Int) - 1
def rowOK (n l : Int) (row : List Int) : Bool := decide ((row.length : Int) = n) && row.all fun x => decide (-1 ≤ x ∧ x ≤ l - 1)
def autOK (n s f : Int) (N : List (List Int)) : Bool :=
  decide (0 ≤ n ∧ n ≤ 8) && decide (1 ≤ (N.length : Int) ∧ (N.length : Int) ≤ 16) && decide (0 ≤ s ∧ s ≤ (N.length : Int) - 1) && decide (0 ≤ f ∧ f ≤ ((2 ^ N.length : Nat) : Int) - 1) && N.all (rowOK n N.length)
end Go.PR.S

end
