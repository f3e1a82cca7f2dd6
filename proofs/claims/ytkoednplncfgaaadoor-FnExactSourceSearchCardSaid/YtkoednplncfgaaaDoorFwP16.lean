/- Persistent sets: the program's search, and the law. -/
import Derived.Test.YtkoednplncfgaaaDoorFwP14
import Derived.Test.YtkoednplncfgaaaDoorFwG8
set_option linter.unusedVariables false
set_option linter.unusedSimpArgs false
section
set_option maxRecDepth 20000
namespace Go.PR.S
open Go Go.PR Go.Proofs Gp
theorem zge (kk : MK) (key key' : Int × Int) (v : Int) : ∀ (es : List MEnt) (j : Nat), mfind kk key (es ++ [(key', v)]) j = match mfind kk key es j with | some p => some p | none => if kk.same key key' then some (j + es.length, v) else none
  | [], j => by simp [mfind]
  | p :: es, j => by
    rw [List.cons_append, mfind, mfind]
    by_cases h : kk.same key p.1 = true
    · rw [if_pos h, if_pos h]
    · rw [if_neg h, if_neg h, zge kk key key' v es (j + 1), List.length_cons]
      have : j + 1 + es.length = j + (es.length + 1) := by omega
      rw [this]
def Seen (es : List MEnt) (L : List Int) : Prop := ∀ x : Int, mget (.int .i64) es (x, 0) = if x ∈ L then some 1 else none
theorem Seen.none {es : List MEnt} {L : List Int} (h : Seen es L) {x : Int} (hx : x ∉ L) : mfind (.int .i64) (x, 0) es 0 = none := by
  have := h x
  rw [if_neg hx] at this
  unfold mget at this
  cases hm : mfind (.int .i64) (x, 0) es 0 with
  | none => rfl
  | some p => rw [hm] at this; cases this
theorem Seen.add {es : List MEnt} {L : List Int} (h : Seen es L) {x : Int} (hx : x ∉ L) : Seen (es ++ [((x, 0), 1)]) (L ++ [x]) := by
  intro y
  have hy := h y
  unfold mget at hy ⊢
  rw [zge]
  by_cases hm : y ∈ L
  · rw [if_pos hm] at hy
    rw [if_pos (List.mem_append_left _ hm)]
    cases hf : mfind (.int .i64) (y, 0) es 0 with
    | none => rw [hf] at hy; cases hy
    | some p => rw [hf] at hy; exact hy
  · rw [if_neg hm] at hy
    have hf : mfind (.int .i64) (y, 0) es 0 = .none := h.none hm
    rw [hf]
    by_cases e : y = x
    · subst e; simp [MK.same]
    · have : (MK.int IntKind.i64).same (y, 0) (x, 0) = false := by simp [MK.same, e]
      simp [this, hm, e]
theorem zc2 : ∀ (n : Nat) (L : List Int), L.Nodup → (∀ x ∈ L, 0 ≤ x ∧ x < n) → L.length ≤ n
  | 0, L, _, h => by
    cases L with
    | nil => simp
    | cons x L => have := h x (by simp); omega
  | n + 1, L, hn, h => by
    by_cases hm : (n : Int) ∈ L
    · have := zc2 n (L.erase n) (hn.erase _) fun x hx => by
        have h1 := h x (List.mem_of_mem_erase hx)
        have h2 : x ≠ n := fun e => by subst e; exact (List.Nodup.mem_erase_iff hn).1 hx |>.1 rfl
        omega
      rw [List.length_erase_of_mem hm] at this
      omega
    · have := zc2 n L hn fun x hx => by
        have h1 := h x hx
        have h2 : x ≠ n := fun e => hm (e ▸ hx)
        omega
      omega
def tiesL (d : List Int) (l : List Nat) : Nat := l.foldl (fun acc a => acc ||| dm d a) 0
theorem zeu (d : List Int) (x : Nat) : ∀ (l : List Nat) (acc : Nat), (l.foldl (fun acc a => acc ||| dm d a) acc).testBit x = (acc.testBit x || l.any fun a => (dm d a).testBit x)
  | [], acc => by simp
  | a :: l, acc => by
    rw [List.foldl_cons, zeu d x l, Nat.testBit_or, List.any_cons, Bool.or_assoc]
theorem zzg (d : List Int) (l : List Nat) (x : Nat) : (tiesL d l).testBit x = l.any fun a => (dm d a).testBit x := by
  unfold tiesL; rw [zeu]; simp
section
variable {m n s f : Int} {d : List Int} {N : List (List Int)}
structure LI (N : List (List Int)) (E q : Nat) (L : List Int) (es : List MEnt) : Prop where
  nd : L.Nodup
  bd : ∀ x ∈ L, 0 ≤ x ∧ x < N.length
  rch : ∀ x ∈ L, Rch N E q x.toNat
  seen : Seen es L
  base : (q : Int) ∈ L
def CLp (d : List Int) (N : List (List Int)) (E : Nat) (L : List Int) (t : Int) : Prop := ∀ a, a < d.length → E.testBit a = false → (N.getD t.toNat []).getD a 0 ≥ 0 → dm d a &&& E = 0 ∧ (N.getD t.toNat []).getD a 0 ∈ L
theorem meets (h : Ov m d n s f N) {E : Nat} (hE : E < 2 ^ d.length) {a : Nat} (ha : a < d.length) : (tiesL d (bitsN E)).testBit a = false ↔ dm d a &&& E = 0 := by
  have hlen := h.al.len
  have hs8 := h.al.small
  have hE63 : E < 2 ^ 63 := Nat.lt_of_lt_of_le hE (Nat.pow_le_pow_right (by omega) (by omega))
  rw [zzg, List.any_eq_false]
  constructor
  · intro hh
    apply Nat.eq_of_testBit_eq
    intro x
    rw [Nat.testBit_and, Nat.zero_testBit]
    cases hx : E.testBit x with
    | false => simp
    | true =>
      have hxl := bit_lt hE hx
      have := hh x ((z3p hE63).2 hx)
      rw [h.al.sym a x (by omega) (by omega)]
      simpa using this
  · intro hh x hx
    have hxE := (z3p hE63).1 hx
    have hxl := bit_lt hE hxE
    have := congrArg (fun z => z.testBit x) hh
    simp only [Nat.testBit_and, Nat.zero_testBit, hxE, Bool.and_true] at this
    rw [h.al.sym x a (by omega) (by omega), this]; simp
end
theorem zd4 {m : Int} {d : List Int} {n s f : Int} {N : List (List Int)} {q e : Int} (h : stCode m d n s f N q e = 0) : Ov m d n s f N ∧ (0 ≤ q ∧ q ≤ (N.length : Int) - 1 ∧ 0 ≤ e ∧ e ≤ ((2 ^ d.length : Nat) : Int) - 1) ∧ diaB d N = true ∧ goesB d N = true ∧ endsB N = true := by
  unfold stCode at h
  by_cases h0 : z1x m d n s f N = 0
  · rw [if_pos h0] at h
    split at h
    · rename_i h1
      split at h
      · rename_i h2; exact ⟨z9a h0, h1, h2⟩
      · omega
    · omega
  · rw [if_neg h0] at h; exact absurd h h0
end Go.PR.S

end

section
namespace Go.PR.S
open Go Go.PR Go.Proofs
theorem zsr (m : Int) (d : List Int) (hd : d.length ≤ B40) : Runs X F.z8p [alD m d, alD m d] [] (boolR true) := zpb rfl (zh7 d hd) rfl
end Go.PR.S

end
