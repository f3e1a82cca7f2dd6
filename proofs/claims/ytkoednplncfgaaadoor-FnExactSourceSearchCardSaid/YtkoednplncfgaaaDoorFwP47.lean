/- The laws' marks in slices of slices, and how long the words are that a search finds. -/
import Derived.Test.YtkoednplncfgaaaDoorFwP30
import Derived.Test.YtkoednplncfgaaaDoorFwP46
set_option linter.unusedVariables false
set_option linter.unusedSimpArgs false
set_option maxRecDepth 20000
namespace Go.PR.S
open Go Go.PR Go.Proofs Gp
theorem zex {N : List (List Int)} {j : Nat} {xs : List Int} (h : j < N.length) : (N.set j xs).getD j [] = xs := by
  rw [List.getD_eq_getElem?_getD, List.getElem?_set_self h]; rfl
theorem zti (N : List (List Int)) (j : Nat) (k : Int) (hj : j < N.length) (hl : (N.getD j []).length ≤ B40) (h0 : 0 ≤ k) (hk : k ≤ 4 * B40) :
    Runs X F.z1d [.nel 500000 j (N.getD j []).length, iD k] [⟨true, .nest .i64 N⟩] ⟨.int .i64 (k + (N.getD j []).length), [some ⟨true, .nest .i64 (N.set j (marks k (N.getD j []).length))⟩], []⟩ := by
  unfold B40 at hl hk
  refine zq3 ?_
  have key := loop_to (f := F.z1d) (b := 0) (body := lb Tryd.f98 0) (N := (N.getD j []).length) (o := z8y (k + (N.getD j []).length) (N.set j (marks k (N.getD j []).length))) (st := fun i => z62 N j (k + i) i (N.set j (marks k i ++ (N.getD j []).drop i))) (fun i hi Q hq => ?_) (fun Q hq => ?_)
  · have e0 : N.set j (marks k 0 ++ (N.getD j []).drop 0) = N := by
      rw [List.drop_zero, show marks k 0 = [] from rfl, List.nil_append, getR_lt hj, List.set_getElem_self]
    rw [e0] at key
    simpa using key
  · have e : (marks k i ++ (N.getD j []).drop i).set i (k + i) = marks k (i + 1) ++ (N.getD j []).drop (i + 1) := by
      rw [List.set_append_right _ _ (by rw [z3o]; exact Nat.le_refl _), z3o, Nat.sub_self, zgd, List.drop_eq_getElem_cons hi, List.set_cons_zero, List.append_assoc]
      rfl
    have e2 : (N.set j (marks k i ++ (N.getD j []).drop i)).set j (((N.set j (marks k i ++ (N.getD j []).drop i)).getD j []).set i (k + i)) = N.set j (marks k (i + 1) ++ (N.getD j []).drop (i + 1)) := by
      rw [zex hj, List.set_set, e]
    apply zq4
    case hq => rw [e2, show k + (i : Int) + 1 = k + ((i + 1 : Nat) : Int) by omega]; exact hq
    all_goals first | omega | (rw [List.length_set]; exact hj) | (rw [zex hj, List.length_append, z3o, List.length_drop]; omega)
  · apply zq5
    case hq =>
      rw [List.drop_length, List.append_nil]
      exact hq
    all_goals omega
def tot : List (List Int) → Nat
  | [] => 0
  | xs :: xss => xs.length + tot xss
def mk2 : Int → List (List Int) → List (List Int)
  | _, [] => []
  | k, xs :: xss => marks k xs.length :: mk2 (k + xs.length) xss
theorem z97 : ∀ (N : List (List Int)) (k : Int), (mk2 k N).length = N.length
  | [], _ => rfl
  | xs :: xss, k => by rw [mk2, List.length_cons, z97 xss, List.length_cons]
theorem zbw : ∀ (N : List (List Int)) (k : Int) (i : Nat), i < N.length → (mk2 k N).getD i [] = marks (k + tot (N.take i)) (N.getD i []).length
  | [], _, _, h => by cases h
  | xs :: xss, k, 0, _ => by
    rw [mk2]
    show marks k xs.length = _
    rw [List.take_zero, tot]
    simp
  | xs :: xss, k, i + 1, h => by
    rw [mk2, List.take_succ_cons, tot]
    show (mk2 (k + xs.length) xss).getD i [] = _
    rw [zbw xss _ i (by simpa using h)]
    show marks (k + (xs.length : Int) + (tot (xss.take i) : Nat)) (xss.getD i []).length = marks (k + ((xs.length + tot (xss.take i) : Nat) : Int)) (xss.getD i []).length
    rw [show k + (xs.length : Int) + (tot (xss.take i) : Nat) = k + ((xs.length + tot (xss.take i) : Nat) : Int) by omega]
theorem zda : ∀ (N : List (List Int)) (i : Nat), i < N.length → tot (N.take (i + 1)) = tot (N.take i) + (N.getD i []).length
  | [], _, h => by cases h
  | xs :: xss, 0, _ => by
    rw [List.take_succ_cons, List.take_zero, List.take_zero, tot, tot]
    simp [tot]
  | xs :: xss, i + 1, h => by
    rw [List.take_succ_cons, List.take_succ_cons, tot, tot, zda xss i (by simpa using h)]
    show xs.length + (tot (xss.take i) + (xss.getD i []).length) = xs.length + tot (xss.take i) + (xss.getD i []).length
    omega
theorem zdb : ∀ (N : List (List Int)) (i : Nat), tot (N.take i) ≤ tot N
  | [], i => by rw [List.take_nil]; exact Nat.le_refl _
  | xs :: xss, 0 => by rw [List.take_zero]; exact Nat.zero_le _
  | xs :: xss, i + 1 => by
    rw [List.take_succ_cons, tot, tot]
    have := zdb xss i
    omega
theorem tot_le : ∀ (N : List (List Int)) (B : Nat), (∀ xs ∈ N, xs.length ≤ B) → tot N ≤ N.length * B
  | [], B, _ => by rw [tot]; exact Nat.zero_le _
  | xs :: xss, B, h => by
    rw [tot, List.length_cons, Nat.succ_mul]
    have h1 := h xs List.mem_cons_self
    have h2 := tot_le xss B fun x hx => h x (List.mem_cons_of_mem _ hx)
    omega
theorem zb9 : ∀ (N : List (List Int)) (i : Nat), (N.getD i []).length ≤ tot N
  | [], i => by simp
  | xs :: xss, 0 => by rw [tot]; show xs.length ≤ _; omega
  | xs :: xss, i + 1 => by
    rw [tot]
    have := zb9 xss i
    show (xss.getD i []).length ≤ _
    omega
theorem zha (N : List (List Int)) (k : Int) (hl : N.length ≤ B40) (ht : tot N ≤ B40) (h0 : 0 ≤ k) (hk : k ≤ 3 * B40) :
    Runs X F.z34 [.nsl 500000 N.length, iD k] [⟨true, .nest .i64 N⟩] ⟨.int .i64 (k + tot N), [some ⟨true, .nest .i64 (mk2 k N)⟩], []⟩ := by
  have hl' := hl
  have ht' := ht
  have hk' := hk
  unfold B40 at hl' ht' hk'
  refine zpz ?_
  have hml := z97 N k
  have key := loop_to (f := F.z34) (b := 0) (body := lb Tryd.f46 0) (N := N.length) (o := z8x (k + tot N) (mk2 k N)) (st := fun i => z61 N (k + tot (N.take i)) i ((mk2 k N).take i ++ N.drop i)) (fun i hi Q hq => ?_) (fun Q hq => ?_)
  · have e0 : (mk2 k N).take 0 ++ N.drop 0 = N := by simp
    have e1 : k + ((tot (N.take 0) : Nat) : Int) = k := by rw [List.take_zero, tot]; simp
    rw [e0, e1] at key
    exact key
  · have hlen : ((mk2 k N).take i ++ N.drop i).length = N.length := by rw [List.length_append, List.length_take, List.length_drop]; omega
    have hgi : ((mk2 k N).take i ++ N.drop i).getD i [] = N.getD i [] := by
      rw [List.getD_eq_getElem?_getD, List.getElem?_append_right (by rw [List.length_take]; omega), List.length_take, Nat.min_eq_left (by omega), Nat.sub_self, List.getElem?_drop, Nat.add_zero, ← List.getD_eq_getElem?_getD]
    have htt := zdb N i
    have htt2 := zb9 N i
    have c := zti ((mk2 k N).take i ++ N.drop i) i (k + tot (N.take i)) (by omega) (by rw [hgi]; unfold B40; omega) (by omega) (by unfold B40; omega)
    rw [hgi] at c
    have e : ((mk2 k N).take i ++ N.drop i).set i (marks (k + tot (N.take i)) (N.getD i []).length) = (mk2 k N).take (i + 1) ++ N.drop (i + 1) := by
      rw [List.set_append_right _ _ (by rw [List.length_take]; omega), List.length_take, Nat.min_eq_left (by omega), Nat.sub_self, List.drop_eq_getElem_cons hi, List.set_cons_zero, List.take_add_one, List.getElem?_eq_getElem (by omega), ← zbw N k i hi, getR_lt (by omega), List.append_assoc]
      rfl
    rw [e] at c
    have e3 : k + ((tot (N.take i) : Nat) : Int) + ((N.getD i []).length : Int) = k + ((tot (N.take (i + 1)) : Nat) : Int) := by rw [zda N i hi]; omega
    apply zq0
    case hq => rw [← e3] at hq; exact hq
    all_goals first | omega | (rw [hgi]; exact c)
  · apply zq1
    case hq =>
      have e1 : (mk2 k N).take N.length ++ N.drop N.length = mk2 k N := by rw [← hml, List.take_length, hml, List.drop_length, List.append_nil]
      rw [e1, List.take_length]
      exact hq
    all_goals first | omega | (rw [List.length_append, List.length_take, List.length_drop]; omega)
theorem ztg (n s f : Int) (N : List (List Int)) (k : Int) (hl : N.length ≤ B40) (ht : tot N ≤ B40) (h0 : 0 ≤ k) (hk : k ≤ 3 * B40) :
    Runs X F.z8w [.agg [iD n, iD s, iD f, .nsl 500000 N.length], iD k] [⟨true, .nest .i64 N⟩] ⟨.int .i64 (k + tot N), [none], []⟩ :=
  zpx (zha N k hl ht h0 hk)
theorem zsx (N : List (List Int)) (k : Int) (hl : N.length ≤ B40) (ht : tot N ≤ B40) (h0 : 0 ≤ k) (hk : k ≤ 3 * B40) :
    Runs X F.z33 [.imm2 .i64 (mk2 k N), iD k] [] (intR (k + tot N)) := by
  have hl' := hl
  have ht' := ht
  have hk' := hk
  unfold B40 at hl' ht' hk'
  refine zpn ?_
  have hml := z97 N k
  have key := loop_to (f := F.z33) (b := 0) (body := lb Tryd.f47 0) (N := N.length) (o := z8t (k + tot N)) (st := fun i => z5z (mk2 k N) (k + tot (N.take i)) i) (fun i hi Q hq => ?_) (fun Q hq => ?_)
  · have e1 : k + ((tot (N.take 0) : Nat) : Int) = k := by rw [List.take_zero, tot]; simp
    rw [e1] at key
    exact key
  · have htt := zdb N i
    have htt2 := zb9 N i
    have c := zsw (k + tot (N.take i)) (N.getD i []).length (by unfold B40; omega) (by omega) (by unfold B40; omega)
    rw [← zbw N k i hi] at c
    have e3 : k + ((tot (N.take i) : Nat) : Int) + ((N.getD i []).length : Int) = k + ((tot (N.take (i + 1)) : Nat) : Int) := by rw [zda N i hi]; omega
    apply zpo
    case hq => rw [← e3] at hq; exact hq
    all_goals first | exact c | omega
  · apply zpp
    case hq =>
      rw [List.take_length]
      exact hq
    all_goals omega
theorem zfz : ∀ (xss : List (List Int)) (l : Int), 0 ≤ l → 0 ≤ leftR l xss → (tot xss : Int) ≤ l
  | [], l, h, _ => by rw [tot]; omega
  | xs :: xss, l, h, h1 => by
    rw [leftR] at h1
    split at h1
    · have := zfz xss (l - xs.length) (by omega) h1
      rw [tot]
      omega
    · omega
theorem zto (n s f : Int) (N : List (List Int)) (l : Int) (h0 : 0 ≤ l) (h1 : l ≤ B40) (hx : N.length ≤ L63) (hw : ∀ xs ∈ N, xs.length ≤ L63) :
    ∃ r : Int, Runs X F.z64 [auD n s f N, iD l] [] (intR r) ∧ r ≤ l ∧ (r < 0 ∨ (0 ≤ r ∧ N.length ≤ B40 ∧ (∀ xs ∈ N, xs.length ≤ B40) ∧ tot N ≤ B40)) := by
  have h1' := h1
  unfold B40 at h1'
  have c := ztq N l h0 h1 hx hw
  by_cases h : (N.length : Int) ≤ l
  · rw [if_pos h] at c
    have hle := zbp N (l - N.length) (by omega)
    by_cases hneg : leftR (l - N.length) N < 0
    · exact ⟨-1, zft c hneg, by omega, .inl (by omega)⟩
    · refine ⟨_, zqc c hneg, by omega, .inr ⟨by omega, by unfold B40; omega, fun xs hxs => ?_, ?_⟩⟩
      · have := zfy N (l - N.length) (by omega) (by omega) xs hxs
        unfold B40; omega
      · have := zfz N (l - N.length) (by omega) (by omega)
        unfold B40; omega
  · rw [if_neg h] at c
    exact ⟨-1, zft c (by omega), by omega, .inl (by omega)⟩
theorem zzm {d : List Int} {N : List (List Int)} {g : Nat → Nat} : ∀ (k : Nat) (w : List Int) (q sl : Nat) (r : Fnd), ∀ u ∈ (visF d N g k w q sl r).1, u ∈ r.1 ∨ u.length ≤ w.length + k := by
  intro k
  induction k with
  | zero => intro w q sl r u hu; exact .inl hu
  | succ k ih =>
    intro w q sl r u hu
    have fold : ∀ (l : List Nat) (x : Nat × Fnd), ∀ u ∈ (l.foldl (stV d N (visF d N g k) w q) x).2.1, u ∈ x.2.1 ∨ u.length ≤ w.length + (k + 1) := by
      intro l
      induction l with
      | nil => intro x u hu; exact .inl hu
      | cons a l ihl =>
        intro x u hu
        rw [List.foldl_cons] at hu
        rcases ihl _ u hu with h | h
        · rcases ih (w ++ [(a : Int)]) ((N.getD q []).getD a 0).toNat (nandn x.1 (dm d a)) x.2 u h with h | h
          · exact .inl h
          · rw [List.length_append, List.length_singleton] at h
            exact .inr (by omega)
        · exact .inr h
    rw [visF] at hu
    split at hu
    · exact .inl hu
    · split at hu
      · rcases List.mem_append.1 hu with h | h
        · exact .inl h
        · rw [List.mem_singleton] at h
          subst h
          exact .inr (by omega)
      · split at hu
        · exact .inl hu
        · exact fold _ _ u hu
theorem ztx (m : Int) (d : List Int) (n s f : Int) (N : List (List Int)) (g : Nat → Nat) : (seaR m d n s f N g).1.length ≤ 64 ∧ ∀ u ∈ (seaR m d n s f N g).1, u.length ≤ 16 := by
  unfold seaR
  split
  · rename_i h0
    obtain ⟨h, _⟩ := zd4 h0
    have h16 := h.l16
    have h1 := h.l1
    split
    · exact ⟨by simp, by simp⟩
    · rename_i hb
      refine ⟨by show (visF d N g (N.length - 1 + 1) [] s.toNat 0 ([], 0)).1.length ≤ 64; omega, fun u hu => ?_⟩
      rcases zzm _ _ _ _ _ u hu with h | h
      · cases h
      · simp only [List.length_nil] at h
        omega
  · exact ⟨by simp, by simp⟩
end Go.PR.S
