/- The exploration's functions: what all of them use. -/
import Derived.Test.YtkoednplncfgaaaDoorFwG1
import Derived.Test.YtkoednplncfgaaaDoorFwMk
import Derived.Test.YtkoednplncfgaaaDoorFwG3
import Derived.Laws.Bits64
import Derived.Test.YtkoednplncfgaaaDoorGrB
set_option linter.unusedVariables false
set_option linter.unusedSimpArgs false
section
set_option maxRecDepth 20000
namespace Go.PR.S
open Go Go.PR Go.Proofs
theorem getD_lt {l : List Int} {i : Nat} (h : i < l.length) : l.getD i 0 = l[i] := by simp [List.getD_eq_getElem?_getD, h]
theorem z2s {f : FuncId} {b : Nat} {body : Code} {st : Nat → LSt} {p : Nat → Bool} {oF oT : OutL} {N : Nat}
    (hS : ∀ i, i < N → p i = true → ∀ Q, WpL X f b body (st (i + 1)).st Q → WpL X f b body (st i).st Q)
    (hF : ∀ i, i < N → p i = false → ∀ Q : Out → Prop, Q oF.out → WpL X f b body (st i).st Q)
    (hE : ∀ Q : Out → Prop, Q oT.out → WpL X f b body (st N).st Q) :
    WpL X f b body (st 0).st (fun o => o = (if (List.range N).all p then oT else oF).out) := by
  have key : ∀ (n i : Nat), i + n = N → (∀ j, j < i → p j = true) → WpL X f b body (st i).st (fun o => o = (if (List.range N).all p then oT else oF).out) := by
    intro n
    induction n with
    | zero =>
      intro i hi hp
      obtain rfl : i = N := by omega
      have : (List.range i).all p = true := List.all_eq_true.2 fun j hj => hp j (List.mem_range.1 hj)
      rw [if_pos this]
      exact hE _ rfl
    | succ n ih =>
      intro i hi hp
      cases hpi : p i with
      | true =>
        refine hS i (by omega) hpi _ (ih (i + 1) (by omega) fun j hj => ?_)
        by_cases e : j = i
        · rw [e]; exact hpi
        · exact hp j (by omega)
      | false =>
        have : ¬ (List.range N).all p = true := fun h => by
          have := List.all_eq_true.1 h i (List.mem_range.2 (by omega))
          rw [hpi] at this; cases this
        rw [if_neg this]
        exact hF i (by omega) hpi _ rfl
  exact key N 0 (by omega) fun j hj => by omega
theorem loop_to {f : FuncId} {b : Nat} {body : Code} {st : Nat → LSt} {o : OutL} {N : Nat}
    (hS : ∀ i, i < N → ∀ Q, WpL X f b body (st (i + 1)).st Q → WpL X f b body (st i).st Q)
    (hE : ∀ Q : Out → Prop, Q o.out → WpL X f b body (st N).st Q) : WpL X f b body (st 0).st (fun x => x = o.out) := by
  have key : ∀ (n i : Nat), i + n = N → WpL X f b body (st i).st (fun x => x = o.out) := by
    intro n
    induction n with
    | zero => intro i hi; obtain rfl : i = N := by omega
              exact hE _ rfl
    | succ n ih => intro i hi; exact hS i (by omega) _ (ih (i + 1) (by omega))
  exact key N 0 (by omega)
theorem z67 {l : List Int} {q : Int → Bool} : (List.range l.length).all (fun i => q (l.getD i 0)) = l.all q := by
  rw [Bool.eq_iff_iff, List.all_eq_true, List.all_eq_true]
  constructor
  · intro h x hx
    obtain ⟨i, hi, rfl⟩ := List.getElem_of_mem hx
    have := h i (List.mem_range.2 hi)
    rwa [getD_lt hi] at this
  · intro h i hi
    have hi := List.mem_range.1 hi
    rw [getD_lt hi]
    exact h _ (List.getElem_mem hi)
theorem z5f {i : Nat} (h : i ≤ 62) : Runs X F.z1v [iD i] [] (intR ((2 ^ i : Nat) : Int)) := by
  have h1 := one_nat h
  have h2 := pow62 h
  rw [← h1]
  have h3 : ((2 ^ i : Nat) : Int) < ((2 ^ 63 : Nat) : Int) := Int.ofNat_lt.2 h2
  have h4 : (0 : Int) ≤ ((2 ^ i : Nat) : Int) := Int.natCast_nonneg _
  rw [← h1] at h3 h4
  exact zox (by omega) (by omega) (by omega)
theorem z7b {m i : Nat} (h : m < 2 ^ 63) : Runs X F.z48 [iD m, iD i] [] (boolR (tb m i)) := by
  rw [← has_nat h]
  exact zmx (by omega)
theorem z5d (n a b : Int) : Runs X F.zk [iD n, iD a, iD b] [] (boolR (decide (a ≤ n ∧ n ≤ b))) := by
  by_cases h : a ≤ n
  · have : decide (a ≤ n ∧ n ≤ b) = decide (n ≤ b) := by simp [h]
    rw [this]; exact zmy h
  · have : decide (a ≤ n ∧ n ≤ b) = false := by simp [h]
    rw [this]; exact zmz h
end Go.PR.S

end

section
set_option maxRecDepth 20000
namespace Go.PR.S
open Go Go.PR Go.Proofs
theorem zag {i : Nat} (h : i < 2 ^ 63) : IntKind.u64.wrap (i : Int) = i := by rw [IntKind.wrap_u64]; omega
theorem z2e (n a b : Int) : Runs X F.z7 [iD n, iD a, iD b] [] (boolR (decide (a ≤ n ∧ n ≤ b))) := by
  by_cases h : a ≤ n
  · have : decide (a ≤ n ∧ n ≤ b) = decide (n ≤ b) := by simp [h]
    rw [this]; exact zvd h
  · have : decide (a ≤ n ∧ n ≤ b) = false := by simp [h]
    rw [this]; exact zve h
theorem z5e {m i : Nat} (h : m < 2 ^ 63) (hi : i < 2 ^ 63) : Runs X F.zo [iD m, iD i] [] (boolR (tb m i)) := by
  have e := zag hi
  have := zv7 (a := (m : Int)) (b := (i : Int)) (by rw [e]; omega)
  rw [e, has_nat h] at this
  exact this
theorem z7d {i : Nat} (h : i ≤ 62) : Runs X F.z4f [iD i] [] (intR ((2 ^ i : Nat) : Int)) := by
  have h1 := one_nat h
  have h2 := pow62 h
  have e := zag (i := i) (by omega)
  have h3 : ((2 ^ i : Nat) : Int) < ((2 ^ 63 : Nat) : Int) := Int.ofNat_lt.2 h2
  have h4 : (0 : Int) ≤ ((2 ^ i : Nat) : Int) := Int.natCast_nonneg _
  have := zvl (a := (i : Int)) (by rw [e]; omega) (by rw [e, h1]; omega) (by rw [e, h1]; omega)
  rw [e, h1] at this
  exact this
theorem z7c {i : Nat} (h : i ≤ 62) : Runs X F.z11 [iD i] [] (intR (((2 ^ i : Nat) : Int) - 1)) := by
  have h2 := pow62 h
  have h3 : ((2 ^ i : Nat) : Int) < ((2 ^ 63 : Nat) : Int) := Int.ofNat_lt.2 h2
  have h4 : (0 : Int) ≤ ((2 ^ i : Nat) : Int) := Int.natCast_nonneg _
  exact zvc (z7d h) (by omega) (by omega)
theorem zsi {N : Nat} (hN : N ≤ 24) (m : Int) : Runs X F.z6z [iD m, iD N] [] (boolR (decide (0 ≤ m ∧ m ≤ ((2 ^ N : Nat) : Int) - 1))) := by
  have c1 := z5d (N : Int) 0 24
  rw [decide_eq_true (by omega)] at c1
  have h2 := pow62 (i := N) (by omega)
  have h3 : ((2 ^ N : Nat) : Int) < ((2 ^ 63 : Nat) : Int) := Int.ofNat_lt.2 h2
  have h4 : (0 : Int) ≤ ((2 ^ N : Nat) : Int) := Int.natCast_nonneg _
  exact zlf c1 rfl (z5f (by omega)) (by omega) (by omega) (z5d m 0 _)
theorem zce (n a b : Int) : Runs X F.z13 [iD n, .pim [iD a], .pim [iD b]] [] (boolR (!decide (a ≤ n ∧ n ≤ b))) := zlq (z5d n a b)
theorem zh4 (w : List Int) (a b : Int) (hl : w.length ≤ B40) : Runs X F.z2b [lD w, iD a, iD b] [] (boolR (w.all fun x => decide (a ≤ x ∧ x ≤ b))) := by
  let q : Int → Bool := fun x => decide (a ≤ x ∧ x ≤ b)
  by_cases hall : w.all q = true
  · have hq : ∀ j, j < w.length → q (w.getD j 0) = true := fun j hj => by rw [getD_lt hj]; exact List.all_eq_true.1 hall _ (List.getElem_mem hj)
    have h1 : Runs X F.zf [lD w, .fn F.z13 [.pim [iD a], .pim [iD b]]] [] (intR (-1)) := by
      refine zut (loop_to (N := w.length) (st := fun i => z3w w a b i) (fun i hi Q hqq => ?_) (fun Q hqq => ?_))
      · have c1 := zce (w.getD i 0) a b
        have hx := hq i hi
        apply zi3
        case hq => exact hqq
        all_goals first | exact c1 | (show (!q (w.getD i 0)) = false; rw [hx]; rfl) | (unfold B40 at hl; omega)
      · apply zuv
        case hq => exact hqq
        all_goals (unfold B40 at hl; omega)
    have h2 := zhu h1
    have h3 := zf3 h2
    rw [hall]
    exact h3
  · -- the first that does not fit
    obtain ⟨k, hk1, hk2, hk3⟩ : ∃ k, k < w.length ∧ q (w.getD k 0) = false ∧ ∀ j, j < k → q (w.getD j 0) = true := by
      have : ∃ k, k < w.length ∧ q (w.getD k 0) = false := by
        rw [← z67, List.all_eq_true] at hall
        simp only [List.mem_range] at hall
        obtain ⟨k, hk⟩ := Classical.not_forall.1 hall
        obtain ⟨h1, h2⟩ := Classical.not_imp.1 hk
        exact ⟨k, h1, by simpa using h2⟩
      obtain ⟨k, hk⟩ := this
      induction k using Nat.strongRecOn with
      | _ k ih =>
        by_cases h : ∃ j, j < k ∧ q (w.getD j 0) = false
        · obtain ⟨j, hj, hjq⟩ := h; exact ih j hj ⟨by omega, hjq⟩
        · refine ⟨k, hk.1, hk.2, fun j hj => ?_⟩
          cases hh : q (w.getD j 0) with
          | true => rfl
          | false => exact (h ⟨j, hj, hh⟩).elim
    have h1 : Runs X F.zf [lD w, .fn F.z13 [.pim [iD a], .pim [iD b]]] [] (intR k) := by
      refine zus (loop_to (N := k) (st := fun i => z3w w a b i) (fun i hi Q hqq => ?_) (fun Q hqq => ?_))
      · have c1 := zce (w.getD i 0) a b
        have hx := hk3 i hi
        apply zi3
        case hq => exact hqq
        all_goals first | exact c1 | (show (!q (w.getD i 0)) = false; rw [hx]; rfl) | (unfold B40 at hl; omega)
      · have c1 := zce (w.getD k 0) a b
        apply zuu
        case hq => exact hqq
        all_goals first | exact c1 | (show (!q (w.getD k 0)) = true; rw [hk2]; rfl) | (unfold B40 at hl; omega)
    have h2 := zhu h1
    have h3 := zf3 h2
    have e : w.all q = (!decide ((k : Int) ≥ 0)) := by simp at hall ⊢; simpa using hall
    rw [e]
    exact h3
end Go.PR.S

end

section
set_option maxRecDepth 20000
namespace Go.PR.S
open Go Go.PR Go.Proofs Gp
theorem X_prim : X.prim = prim := rfl
theorem zkj {X : Ctx} {f : FuncId} {args : List D} {prows : List Row} {r : Ret} (h : X.prim f args prows = some r) (k : Nat) : evalFn X (k + 1) f args prows = some r := by
  simp only [evalFn, h]
abbrev WL (f : FuncId) (b : Nat) (fn : Func) (k : Nat) (s : LSt) (o : OutL) : Prop := WpL X f b (lb fn k) s.st (fun x => x = o.out)
theorem Runs.prim {X : Ctx} {f : FuncId} {args : List D} {prows : List Row} {r : Ret} (h : X.prim f args prows = some r) : Runs X f args prows r :=
  ⟨1, fun k hk => by obtain ⟨k, rfl⟩ : ∃ k', k = k' + 1 := ⟨k - 1, by omega⟩; exact zkj h k⟩
theorem prim_tz {x : Int} (h : 0 ≤ x ∧ x < 18446744073709551616) : prim F.z6p [.int .u64 x] [] = some (intR (Lib.ctz 64 x.toNat)) := by
  unfold prim
  rw [if_neg (by decide), if_pos rfl]
  exact if_pos h
theorem ztu {m : Nat} (h : m < 2 ^ 63) : Runs X F.z6p [.int .u64 (m : Int)] [] (intR (Lib.ctz 64 m)) := by
  have hp := prim_tz (x := (m : Int)) ⟨by omega, by omega⟩
  rw [Int.toNat_natCast] at hp
  rw [← X_prim] at hp
  exact Runs.prim hp
theorem z4b {m : Nat} (h : m < 2 ^ 63) : Runs X F.zw [iD m] [] (rowR (bitsL m)) := by
  have loop : ∀ (n k : Nat) (r : List Int), (bitsN k).length = n → k < 2 ^ 63 → r ++ bitsL k = bitsL m → r.length ≤ 63 →
      WL F.zw 0 Tryd.f119 0 (z5y k r) (z8k (bitsL m)) := by
    intro n
    induction n with
    | zero =>
      intro k r hn hk he hr
      by_cases h0 : k = 0
      · subst h0
        rw [z7m, List.append_nil] at he
        subst he
        apply zfe
        case hq => rfl
        all_goals rfl
      · rw [zav h0 hk] at hn; cases hn
    | succ n ih =>
      intro k r hn hk he hr
      by_cases h0 : k = 0
      · subst h0
        rw [z7m, List.append_nil] at he
        subst he
        apply zfe
        case hq => rfl
        all_goals rfl
      · have h1 : (k : Int) - 1 = ((k - 1 : Nat) : Int) := by omega
        have h2 : iand (k : Int) ((k : Int) - 1) = ((k &&& (k - 1) : Nat) : Int) := by rw [h1]; exact zbb hk (by omega)
        have hk' : k &&& (k - 1) < 2 ^ 63 := Nat.lt_of_le_of_lt Nat.and_le_left hk
        have hb := zjp h0 hk
        have hlen : (r ++ bitsL k).length ≤ 63 := by
          rw [he]; unfold bitsL bitsN
          rw [List.length_map]
          exact Nat.le_trans (List.length_filter_le _ _) (by simp)
        rw [hb] at hlen
        apply zov
        case hq =>
          rw [h2]
          refine ih _ _ ?_ hk' ?_ ?_
          · rw [zav h0 hk] at hn; simpa using hn
          · rw [hb] at he; rw [List.append_assoc]; exact he
          · simp at hlen ⊢; omega
        all_goals first | omega | (rw [zag (by omega)]; exact ztu hk)
  exact zou (loop _ m [] rfl h (by simp) (by simp))
end Go.PR.S

end

section
namespace Go.PR.S
open Go Go.PR Go.Proofs
theorem getR_lt {N : List (List Int)} {i : Nat} (h : i < N.length) : N.getD i [] = N[i] := by simp [List.getD_eq_getElem?_getD, h]
def okE (N : List (List Int)) (done : List Bool) (s : Nat) : Bool := (N.getD s []).all fun r => decide (r < 0) || done.getD r.toNat false
def stepE (N : List (List Int)) (st : List Bool × Bool) (s : Nat) : List Bool × Bool :=
  if st.1.getD s false = false ∧ okE N st.1 s = true then (st.1.set s true, true) else st
def foldE (N : List (List Int)) (done : List Bool) (j : Nat) : List Bool × Bool := (List.range j).foldl (stepE N) (done, false)
theorem zkp (N : List (List Int)) (d : List Bool) : foldE N d 0 = (d, false) := rfl
theorem z6t (N : List (List Int)) (d : List Bool) (j : Nat) : foldE N d (j + 1) = stepE N (foldE N d j) j := by
  unfold foldE; rw [List.range_succ, List.foldl_append]; rfl
def passE (N : List (List Int)) (done : List Bool) : List Bool × Bool := foldE N done N.length
theorem zz7 (N : List (List Int)) (st : List Bool × Bool) (s : Nat) : (stepE N st s).1.length = st.1.length := by
  unfold stepE
  split <;> simp
theorem z4o (N : List (List Int)) (d : List Bool) : ∀ j, (foldE N d j).1.length = d.length
  | 0 => rfl
  | j + 1 => by rw [z6t, zz7, z4o N d j]
theorem z7a (N : List (List Int)) (done : List Bool) : (passE N done).1.length = done.length := z4o N done _
def fixE (N : List (List Int)) : Nat → List Bool → List Bool
  | 0, d => d
  | k + 1, d => if (passE N d).2 = true then fixE N k (passE N d).1 else (passE N d).1
def noneE (N : List (List Int)) : List Bool := List.replicate N.length false
def lastE (N : List (List Int)) : List Bool := fixE N (N.length + 1) (noneE N)
def endsB (N : List (List Int)) : Bool := (lastE N).all id
theorem z7u (N : List (List Int)) : ∀ (k : Nat) (d : List Bool), (fixE N k d).length = d.length
  | 0, d => rfl
  | k + 1, d => by
    unfold fixE
    split
    · rw [z7u N k, z7a]
    · rw [z7a]
theorem z5r {d : List Bool} {i : Nat} (h : i < d.length) : d.getD i false = d[i] := by simp [List.getD_eq_getElem?_getD, h]
theorem getD_set_true {d : List Bool} {s : Nat} (h : s < d.length) (i : Nat) : (d.set s true).getD i false = if s = i then true else d.getD i false := by
  rw [List.getD_eq_getElem?_getD, List.getD_eq_getElem?_getD, List.getElem?_set]
  by_cases e : s = i
  · rw [if_pos e, if_pos e, if_pos h]; rfl
  · rw [if_neg e, if_neg e]
theorem zed {d : List Bool} {s : Nat} (h : s < d.length) (hf : d.getD s false = false) : (d.set s true).count false + 1 = d.count false ∧ (d.set s true).count true = d.count true + 1 := by
  rw [z5r h] at hf
  have hp : 0 < d.count false := List.count_pos_iff.2 (by rw [← hf]; exact List.getElem_mem h)
  rw [List.count_set h, List.count_set h, hf]
  simp
  omega
theorem zb7 (N : List (List Int)) (d : List Bool) (hd : d.length = N.length) : ∀ j, j ≤ N.length → (foldE N d j).1.count false + (if (foldE N d j).2 = true then 1 else 0) ≤ d.count false
  | 0, _ => by rw [zkp]; simp
  | j + 1, hj => by
    have ih := zb7 N d hd j (by omega)
    rw [z6t]
    unfold stepE
    split
    · rename_i h
      have := (zed (d := (foldE N d j).1) (s := j) (by rw [z4o, hd]; omega) h.1).1
      simp only [if_true]
      split at ih <;> omega
    · exact ih
def finB (N : List (List Int)) : Nat → Nat → Bool
  | 0, _ => false
  | k + 1, s => (N.getD s []).all fun r => decide (r < 0) || finB N k r.toNat
theorem zb5 (N : List (List Int)) : ∀ (k s : Nat), finB N k s = true → finB N (k + 1) s = true
  | 0, _, h => by cases h
  | k + 1, s, h => by
    rw [finB, List.all_eq_true] at h ⊢
    intro r hr
    have := h r hr
    rw [Bool.or_eq_true] at this ⊢
    rcases this with h | h
    · exact .inl h
    · exact .inr (zb5 N k _ h)
theorem finB_le {N : List (List Int)} {k j s : Nat} (h : finB N k s = true) (hj : k ≤ j) : finB N j s = true := by
  induction j with
  | zero => obtain rfl : k = 0 := by omega
            exact h
  | succ j ih =>
    by_cases e : k = j + 1
    · rw [← e]; exact h
    · exact zb5 N j s (ih (by omega))
def InvE (N : List (List Int)) (d : List Bool) : Prop := ∀ t, d.getD t false = true → finB N (d.count true) t = true
theorem zz6 {N : List (List Int)} {st : List Bool × Bool} {s : Nat} (hs : s < st.1.length) (h : InvE N st.1) : InvE N (stepE N st s).1 := by
  unfold stepE
  split
  · rename_i hc
    intro t ht
    have hcount := (zed hs hc.1).2
    simp only at ht ⊢
    rw [hcount]
    rw [getD_set_true hs] at ht
    by_cases e : s = t
    · subst e
      rw [finB]
      have ho := hc.2
      unfold okE at ho
      rw [List.all_eq_true] at ho ⊢
      intro r hr
      have := ho r hr
      rw [Bool.or_eq_true] at this ⊢
      rcases this with h1 | h1
      · exact .inl h1
      · exact .inr (h _ h1)
    · rw [if_neg e] at ht
      exact zb5 N _ _ (h t ht)
  · exact h
theorem zb8 {N : List (List Int)} {d : List Bool} (hd : d.length = N.length) (h : InvE N d) : ∀ j, j ≤ N.length → InvE N (foldE N d j).1
  | 0, _ => h
  | j + 1, hj => by
    rw [z6t]
    exact zz6 (by rw [z4o, hd]; omega) (zb8 hd h j (by omega))
theorem zeq {N : List (List Int)} : ∀ (k : Nat) (d : List Bool), d.length = N.length → InvE N d → InvE N (fixE N k d)
  | 0, d, _, h => h
  | k + 1, d, hd, h => by
    unfold fixE
    split
    · exact zeq k _ (by rw [z7a, hd]) (zb8 hd h _ (Nat.le_refl _))
    · exact zb8 hd h _ (Nat.le_refl _)
theorem zdi {d : List Bool} : d.all id = true ↔ ∀ i, i < d.length → d.getD i false = true := by
  rw [List.all_eq_true]
  constructor
  · intro h i hi
    rw [z5r hi]
    exact h _ (List.getElem_mem hi)
  · intro h x hx
    obtain ⟨i, hi, rfl⟩ := List.getElem_of_mem hx
    have := h i hi
    rwa [z5r hi] at this
theorem zgi (N : List (List Int)) (t : Nat) : (noneE N).getD t false = false := by
  unfold noneE
  rw [List.getD_eq_getElem?_getD, List.getElem?_replicate]
  split <;> rfl
theorem zb2 {N : List (List Int)} (h : endsB N = true) : ∀ s, s < N.length → finB N N.length s = true := by
  have hi : InvE N (lastE N) := zeq _ _ (by simp [noneE]) fun t ht => by rw [zgi] at ht; cases ht
  have hlen : (lastE N).length = N.length := by unfold lastE; rw [z7u]; simp [noneE]
  intro s hs
  have := hi s (zdi.1 h s (by omega))
  exact finB_le this (Nat.le_trans List.count_le_length (by omega))
def mOf (d : List Bool) : Nat := mkM (fun i => d.getD i false) d.length
theorem mOf_bit (d : List Bool) (i : Nat) : (mOf d).testBit i = d.getD i false := by
  unfold mOf
  rw [mkM_bit]
  by_cases h : i < d.length
  · simp [h]
  · simp [h, List.getD_eq_getElem?_getD, List.getElem?_eq_none (Nat.le_of_not_lt h)]
theorem mOf_lt (d : List Bool) : mOf d < 2 ^ d.length := mkM_lt _ _
theorem mOf_set {d : List Bool} {s : Nat} (h : s < d.length) : mOf d ||| 2 ^ s = mOf (d.set s true) := by
  apply Nat.eq_of_testBit_eq
  intro i
  rw [Nat.testBit_or, mOf_bit, mOf_bit, Nat.testBit_two_pow, getD_set_true h]
  by_cases e : s = i
  · simp [e]
  · simp [e]
theorem zr6 (N : List (List Int)) : mOf (noneE N) = 0 := by
  apply Nat.eq_of_testBit_eq
  intro i
  rw [mOf_bit, zgi]; simp
theorem zr5 (d : List Bool) : mOf d = 2 ^ d.length - 1 ↔ d.all id = true := by
  rw [zdi]
  constructor
  · intro h i hi
    rw [← mOf_bit, h, Nat.testBit_two_pow_sub_one]; simpa using hi
  · intro h
    apply Nat.eq_of_testBit_eq
    intro i
    rw [mOf_bit, Nat.testBit_two_pow_sub_one]
    by_cases hi : i < d.length
    · rw [h i hi]; simp [hi]
    · simp [hi, List.getD_eq_getElem?_getD, List.getElem?_eq_none (Nat.le_of_not_lt hi)]
theorem z2y {n : Nat} {q : Nat → Bool} (h : ¬ (List.range n).all q = true) : ∃ k, k < n ∧ q k = false ∧ ∀ j, j < k → q j = true := by
  have : ∃ k, k < n ∧ q k = false := by
    rw [List.all_eq_true] at h
    simp only [List.mem_range] at h
    obtain ⟨k, hk⟩ := Classical.not_forall.1 h
    obtain ⟨h1, h2⟩ := Classical.not_imp.1 hk
    exact ⟨k, h1, by simpa using h2⟩
  obtain ⟨k, hk⟩ := this
  induction k using Nat.strongRecOn with
  | _ k ih =>
    by_cases h : ∃ j, j < k ∧ q j = false
    · obtain ⟨j, hj, hjq⟩ := h; exact ih j hj ⟨by omega, hjq⟩
    · refine ⟨k, hk.1, hk.2, fun j hj => ?_⟩
      cases hh : q j with
      | true => rfl
      | false => exact (h ⟨j, hj, hh⟩).elim
theorem zgv {l : List Bool} {q : Bool → Bool} : (List.range l.length).all (fun i => q (l.getD i false)) = l.all q := by
  rw [Bool.eq_iff_iff, List.all_eq_true, List.all_eq_true]
  constructor
  · intro h x hx
    obtain ⟨i, hi, rfl⟩ := List.getElem_of_mem hx
    have := h i (List.mem_range.2 hi)
    rwa [z5r hi] at this
  · intro h i hi
    have hi := List.mem_range.1 hi
    rw [z5r hi]
    exact h _ (List.getElem_mem hi)
theorem zcc {l : List (List Int)} {q : List Int → Bool} : (List.range l.length).all (fun i => q (l.getD i [])) = l.all q := by
  rw [Bool.eq_iff_iff, List.all_eq_true, List.all_eq_true]
  constructor
  · intro h x hx
    obtain ⟨i, hi, rfl⟩ := List.getElem_of_mem hx
    have := h i (List.mem_range.2 hi)
    rwa [getR_lt hi] at this
  · intro h i hi
    have hi := List.mem_range.1 hi
    rw [getR_lt hi]
    exact h _ (List.getElem_mem hi)
structure AutP (n s f : Int) (N : List (List Int)) : Prop where
  n0 : 0 ≤ n
  n8 : n ≤ 8
  l1 : 1 ≤ N.length
  l16 : N.length ≤ 16
  s0 : 0 ≤ s
  sl : s < N.length
  f0 : 0 ≤ f
  fl : f ≤ ((2 ^ N.length : Nat) : Int) - 1
  rows : ∀ i, i < N.length → ((N.getD i []).length : Int) = n ∧ ∀ a, a < (N.getD i []).length → -1 ≤ (N.getD i []).getD a 0 ∧ (N.getD i []).getD a 0 ≤ (N.length : Int) - 1
def rowOK (n l : Int) (row : List Int) : Bool := decide ((row.length : Int) = n) && row.all fun x => decide (-1 ≤ x ∧ x ≤ l - 1)
def autOK (n s f : Int) (N : List (List Int)) : Bool :=
  decide (0 ≤ n ∧ n ≤ 8) && decide (1 ≤ (N.length : Int) ∧ (N.length : Int) ≤ 16) && decide (0 ≤ s ∧ s ≤ (N.length : Int) - 1) && decide (0 ≤ f ∧ f ≤ ((2 ^ N.length : Nat) : Int) - 1) && N.all (rowOK n N.length)
theorem autP_of {n s f : Int} {N : List (List Int)} (h : autOK n s f N = true) : AutP n s f N := by
  unfold autOK at h
  simp only [Bool.and_eq_true, decide_eq_true_eq] at h
  obtain ⟨⟨⟨⟨h1, h2⟩, h3⟩, h4⟩, h5⟩ := h
  refine ⟨h1.1, h1.2, by omega, by omega, h3.1, by omega, h4.1, h4.2, fun i hi => ?_⟩
  have := List.all_eq_true.1 h5 _ (List.getElem_mem hi)
  rw [← getR_lt hi] at this
  unfold rowOK at this
  simp only [Bool.and_eq_true, decide_eq_true_eq, List.all_eq_true] at this
  refine ⟨this.1, fun a ha => ?_⟩
  rw [getD_lt ha]
  exact this.2 _ (List.getElem_mem ha)
end Go.PR.S

end
