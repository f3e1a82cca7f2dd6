/- Roots of words: the first ones of a power are its base, the root of the root is itself. -/
import Derived.Test.YtnhklcbddcoadaaDoorGrF
set_option linter.unusedVariables false
set_option linter.unusedSimpArgs false
set_option linter.unusedSectionVars false
section
namespace Gp
def decQ (q : Int → Nat) (a : Int) : Int → Nat := fun b => if b = a then q b - 1 else q b
def kq : (Int → Nat) → List Int → List Int
  | _, [] => []
  | q, a :: l => if 0 < q a then a :: kq (decQ q a) l else kq q l
theorem z69 : ∀ (w : List Int) {q q' : Int → Nat}, (∀ x ∈ w, q x = q' x) → kq q w = kq q' w
  | [], _, _, _ => rfl
  | a :: l, q, q', h => by
    have h1 := h a List.mem_cons_self
    rw [kq, kq, h1]
    split
    · rw [z69 l (q := decQ q a) (q' := decQ q' a) fun x hx => by
        unfold decQ
        rw [h x (List.mem_cons_of_mem _ hx)]]
    · exact z69 l fun x hx => h x (List.mem_cons_of_mem _ hx)
theorem kq_zero : ∀ (w : List Int) {q : Int → Nat}, (∀ x ∈ w, q x = 0) → kq q w = []
  | [], _, _ => rfl
  | a :: l, q, h => by
    rw [kq, if_neg (by rw [h a List.mem_cons_self]; omega)]
    exact kq_zero l fun x hx => h x (List.mem_cons_of_mem _ hx)
theorem z6a (p : Int → Bool) : ∀ (w : List Int) (q : Int → Nat), (kq q w).filter p = kq q (w.filter p)
  | [], _ => rfl
  | a :: l, q => by
    rw [kq]
    cases hp : p a with
    | true =>
      rw [List.filter_cons_of_pos hp, kq]
      split
      · rw [List.filter_cons_of_pos hp, z6a p l]
      · exact z6a p l q
    | false =>
      have hp' : ¬ p a = true := by rw [hp]; simp
      rw [List.filter_cons_of_neg hp']
      split
      · rw [List.filter_cons_of_neg hp', z6a p l]
        refine z69 _ fun x hx => ?_
        have hx2 := (List.mem_filter.1 hx).2
        unfold decQ
        rw [if_neg (fun e => by rw [e, hp] at hx2; cases hx2)]
      · exact z6a p l q
theorem kq_teq {T : Dep Int} {u v : List Int} (h : teq T u v) (q : Int → Nat) : teq T (kq q u) (kq q v) := fun a b hd => by
  rw [z6a, z6a, h a b hd]
theorem zhj : ∀ (s v : List Int) {q : Int → Nat}, (∀ x ∈ s ++ v, q x = s.count x) → kq q (s ++ v) = s
  | [], v, q, h => kq_zero v fun x hx => by rw [h x hx]; rfl
  | a :: s, v, q, h => by
    have h1 := h a (by simp)
    rw [List.cons_append, kq, if_pos (by rw [h1, List.count_cons_self]; omega)]
    rw [zhj s v fun x hx => ?_]
    unfold decQ
    have h2 := h x (by rw [List.cons_append]; exact List.mem_cons_of_mem _ hx)
    by_cases hxa : x = a
    · subst hxa
      rw [if_pos rfl, h2, List.count_cons_self]; omega
    · rw [if_neg hxa, h2, List.count_cons_of_ne (fun e => hxa e.symm)]
theorem fk_kq (q : Int → Nat) (w : List Int) : ∀ (i : Nat), i ≤ w.length → kq q w = fk q w i ++ kq (fun b => q b - (w.take i).count b) (w.drop i)
  | 0, _ => by
    rw [fk, List.drop_zero, List.nil_append]
    exact z69 w fun x _ => by simp
  | i + 1, hi => by
    have hlt : i < w.length := by omega
    have e : w.getD i 0 = w[i] := by simp [List.getD_eq_getElem?_getD, hlt]
    rw [fk_kq q w i (by omega), fk, List.append_assoc, List.drop_eq_getElem_cons hlt, kq, e]
    have hc : ∀ b, (w.take (i + 1)).count b = (w.take i).count b + (if w[i] = b then 1 else 0) := fun b => by
      rw [z8h hlt, e]
    by_cases h : (w.take i).count w[i] < q w[i]
    · rw [if_pos h, if_pos (by omega)]
      rw [List.singleton_append]
      refine congrArg _ (congrArg _ (z69 _ fun x _ => ?_))
      show (if x = w[i] then (q x - (w.take i).count x) - 1 else q x - (w.take i).count x) = q x - (w.take (i + 1)).count x
      rw [hc x]
      by_cases hx : x = w[i]
      · rw [if_pos hx, if_pos hx.symm]; omega
      · rw [if_neg hx, if_neg (fun e' => hx e'.symm)]; omega
    · rw [if_neg h, if_neg (by omega), List.nil_append]
      refine congrArg _ (z69 _ fun x _ => ?_)
      show q x - (w.take i).count x = q x - (w.take (i + 1)).count x
      rw [hc x]
      by_cases hx : x = w[i]
      · rw [if_pos hx.symm, hx]; omega
      · rw [if_neg (fun e' => hx e'.symm)]; omega
theorem fr_kq (w : List Int) (k : Nat) : fr w k = kq (fun a => w.count a / k) w := by
  unfold fr
  rw [fk_kq _ w w.length (Nat.le_refl _), List.drop_length]
  simp [kq]
theorem fr_teq {T : Dep Int} {u v : List Int} (h : teq T u v) (k : Nat) : teq T (fr u k) (fr v k) := by
  rw [fr_kq, fr_kq]
  have e : (fun a => u.count a / k) = fun a => v.count a / k := by funext a; rw [h.count]
  rw [e]
  exact kq_teq h _
theorem z7z (s : List Int) : reps s 0 = [] := rfl
theorem z1m (s : List Int) (k : Nat) : reps s (k + 1) = s ++ reps s k := by unfold reps; rw [List.replicate_succ, List.flatten_cons]
theorem z9z (s : List Int) : reps s 1 = s := by rw [z1m, z7z, List.append_nil]
theorem z9y (s : List Int) (a : Nat) : ∀ b, reps s (a + b) = reps s a ++ reps s b := by
  induction a with
  | zero => intro b; rw [Nat.zero_add, z7z, List.nil_append]
  | succ a ih => intro b; rw [show a + 1 + b = a + b + 1 by omega, z1m, ih, z1m, List.append_assoc]
theorem zil (s : List Int) (j : Nat) : ∀ k, reps (reps s j) k = reps s (j * k)
  | 0 => rfl
  | k + 1 => by rw [z1m, zil s j k, ← z9y, show j + j * k = j * (k + 1) by rw [Nat.mul_succ, Nat.add_comm]]
theorem za0 {T : Dep Int} {u v : List Int} (h : teq T u v) : ∀ k, teq T (reps u k) (reps v k)
  | 0 => teq.refl _
  | k + 1 => by rw [z1m, z1m]; exact h.append (za0 h k)
theorem zik (s : List Int) (a : Int) : ∀ k, (reps s k).count a = s.count a * k
  | 0 => by rw [z7z]; rfl
  | k + 1 => by rw [z1m, List.count_append, zik s a k, Nat.mul_succ, Nat.add_comm]
theorem fr_reps (s : List Int) {k : Nat} (hk : 1 ≤ k) : fr (reps s k) k = s := by
  rw [fr_kq]
  obtain ⟨j, rfl⟩ : ∃ j, k = j + 1 := ⟨k - 1, by omega⟩
  have e : (fun a => (reps s (j + 1)).count a / (j + 1)) = fun a => s.count a := by
    funext a
    rw [zik, Nat.mul_div_cancel _ (by omega)]
  rw [e, z1m]
  exact zhj s _ fun x _ => rfl
theorem fr_Wd {m : Nat} {w : List Int} (h : Wd m w) (k : Nat) : Wd m (fr w k) := fun x hx => h x (fr_mem hx)
theorem reps_Wd {m : Nat} {w : List Int} (h : Wd m w) (k : Nat) : Wd m (reps w k) := fun x hx => h x (zdj hx)
theorem z5v {T : Dep Int} {m : Nat} {w : List Int} (hw : Wd m w) {k : Nat} (hk : 1 ≤ k) : goodK T m w k = true ↔ ∃ s, teq T w (reps s k) := by
  unfold goodK
  rw [Bool.and_eq_true, decide_eq_true_eq, decide_eq_true_eq, z9p (reps_Wd (fr_Wd hw k) k) hw]
  constructor
  · rintro ⟨_, h⟩
    exact ⟨_, h.symm⟩
  · rintro ⟨s, h⟩
    have h1 := fr_teq h k
    rw [fr_reps s hk] at h1
    refine ⟨?_, (za0 h1 k).trans h.symm⟩
    rw [h1.length, h.length, z7y]
theorem zio {T : Dep Int} {m : Nat} {u v : List Int} (hu : Wd m u) (hv : Wd m v) (h : teq T u v) : ∀ n, rootF T m u n = rootF T m v n
  | 0 => rfl
  | n + 1 => by
    have e : goodK T m u (n + 1) = goodK T m v (n + 1) := by
      rw [Bool.eq_iff_iff, z5v hu (by omega), z5v hv (by omega)]
      exact ⟨fun ⟨s, hs⟩ => ⟨s, h.symm.trans hs⟩, fun ⟨s, hs⟩ => ⟨s, h.trans hs⟩⟩
    rw [rootF, rootF, e, zio hu hv h n]
theorem zdl {T : Dep Int} {m : Nat} {u v : List Int} (hu : Wd m u) (hv : Wd m v) (h : teq T u v) : rootK T m u = rootK T m v ∧ rootW T m u = rootW T m v := by
  have e := zio hu hv h v.length
  unfold rootK rootW
  rw [h.length, e]
  refine ⟨rfl, ?_⟩
  split
  · exact (fr_teq h _).nform m
  · exact h.nform m
theorem ziq {T : Dep Int} {m : Nat} {w : List Int} : ∀ {n : Nat}, (∀ j, 1 < j → j ≤ n → goodK T m w j = false) → rootF T m w n = none
  | 0, _ => rfl
  | n + 1, h => by
    rw [rootF, if_neg (fun hh => by rw [h (n + 1) (by omega) (Nat.le_refl _)] at hh; cases hh.2)]
    exact ziq fun j h1 h2 => h j h1 (by omega)
theorem z6i {T : Dep Int} {m : Nat} {w : List Int} (hw : Wd m w) (hne : w ≠ []) :
    1 ≤ rootK T m w ∧ teq T w (reps (rootW T m w) (rootK T m w)) ∧ Wd m (rootW T m w) ∧ nform T m (rootW T m w) = rootW T m w ∧ ∀ j, rootK T m w < j → j ≤ w.length → goodK T m w j = false := by
  have hid : ∀ {u : List Int}, Wd m u → Wd m (nform T m u) := fun {u} hu x hx => hu x (((z1u (T := T) hu).mem x).1 hx)
  unfold rootK rootW
  cases e : rootF T m w w.length with
  | some k =>
    obtain ⟨h1, h2, h3, h4⟩ := zir e
    have hfw := fr_Wd hw k
    have hs := z1u (T := T) hfw
    have hg := h3
    unfold goodK at hg
    rw [Bool.and_eq_true, decide_eq_true_eq, decide_eq_true_eq, z9p (reps_Wd hfw k) hw] at hg
    refine ⟨by show 1 ≤ k; omega, hg.2.symm.trans (za0 hs.symm k), hid hfw, hs.nform m, h4⟩
  | none =>
    have hs := z1u (T := T) hw
    refine ⟨Nat.le_refl 1, ?_, hid hw, hs.nform m, fun j h1 h2 => zip e j h1 h2⟩
    show teq T w (reps (nform T m w) 1)
    rw [z9z]
    exact hs.symm
theorem zto {T : Dep Int} {m : Nat} {w : List Int} (hw : Wd m w) (hne : w ≠ []) : rootK T m (rootW T m w) = 1 ∧ rootW T m (rootW T m w) = rootW T m w := by
  obtain ⟨h1, h2, h3, h4, h5⟩ := z6i (T := T) hw hne
  have hn : rootF T m (rootW T m w) (rootW T m w).length = none := by
    refine ziq fun j hj1 hj2 => ?_
    cases hg : goodK T m (rootW T m w) j with
    | false => rfl
    | true =>
      obtain ⟨s, hs⟩ := (z5v h3 (by omega)).1 hg
      have hw2 : teq T w (reps s (j * rootK T m w)) := by
        have := h2.trans (za0 hs (rootK T m w))
        rwa [zil] at this
      have hsl : 1 ≤ s.length := by
        cases s with
        | nil =>
          have := hw2.length
          rw [z7y, List.length_nil, Nat.zero_mul] at this
          exact absurd (List.length_eq_zero_iff.1 this) hne
        | cons a l => simp
      have hlen := hw2.length
      rw [z7y] at hlen
      have hlt : rootK T m w < j * rootK T m w := by
        have : 2 * rootK T m w ≤ j * rootK T m w := Nat.mul_le_mul_right _ (by omega)
        omega
      have hle : j * rootK T m w ≤ w.length := by
        rw [hlen]
        exact Nat.le_mul_of_pos_left _ hsl
      have := h5 _ hlt hle
      rw [(z5v hw (by omega)).2 ⟨s, hw2⟩] at this
      cases this
  constructor
  · unfold rootK; rw [hn]; rfl
  · show (match rootF T m (rootW T m w) (rootW T m w).length with | some k => nform T m (fr (rootW T m w) k) | none => nform T m (rootW T m w)) = _
    rw [hn]
    exact h4
end Gp

end

section
namespace Gp
section
variable {α : Type} [DecidableEq α]
theorem z41 {T : Dep α} {a : α} : ∀ {u v : List α}, isFirst T (u ++ v) a = true ↔ isFirst T u a = true ∨ ((∀ y ∈ u, T.d y a = false) ∧ isFirst T v a = true)
  | [], v => by simp [isFirst]
  | x :: u, v => by
    have ih := z41 (T := T) (a := a) (u := u) (v := v)
    rw [List.cons_append, isFirst, isFirst]
    by_cases hx : x = a
    · simp [hx]
    · cases hd : T.d x a with
      | true => simp [hx, hd]
      | false =>
        simp only [decide_eq_false hx, Bool.false_or, Bool.not_false, Bool.true_and, ih, List.mem_cons, forall_eq_or_imp, hd, true_and]
variable {G : Grp α}
theorem inv_inj {a b : α} (h : G.inv a = G.inv b) : a = b := by
  have := congrArg G.inv h
  rwa [G.inv2, G.inv2] at this
theorem z7p {s : α} : ∀ (f : List α), isFirst G.toDep (f.map G.inv) (G.inv s) = isFirst G.toDep f s
  | [] => rfl
  | x :: f => by
    rw [List.map_cons, isFirst, isFirst, z7p f, G.dinv, Grp.dinv']
    by_cases h : x = s
    · rw [h, decide_eq_true rfl, decide_eq_true rfl]
    · rw [decide_eq_false h, decide_eq_false fun e => h (inv_inj e)]
theorem z8i {u v : List α} (h : teq G.toDep u v) : teq G.toDep (back G u) (back G v) := by
  have key : ∀ w : List α, ∀ a b, (w.map G.inv).filter (two a b) = (w.filter (two (G.inv a) (G.inv b))).map G.inv := by
    intro w a b
    rw [List.filter_map]
    refine congrArg _ (List.filter_congr fun x _ => ?_)
    show (decide (G.inv x = a) || decide (G.inv x = b)) = (decide (x = G.inv a) || decide (x = G.inv b))
    have e : ∀ c, decide (G.inv x = c) = decide (x = G.inv c) := fun c => by
      rw [decide_eq_decide]
      exact ⟨fun h => by rw [← h, G.inv2], fun h => by rw [h, G.inv2]⟩
    rw [e a, e b]
  unfold back
  refine teq.reverse fun a b hd => ?_
  rw [key, key, h (G.inv a) (G.inv b) (by rw [G.dinv, Grp.dinv']; exact hd)]
theorem z4f (f : List α) : (back G f).length = f.length := by simp [back]
def bothE (G : Grp α) (c : List α) (s : α) : Prop := isFirst G.toDep c s = true ∧ isFirst G.toDep c.reverse (G.inv s) = true
theorem zn4 {f c : List α} {s : α} (hc : ¬ bothE G c s) (h1 : isFirst G.toDep (f ++ c ++ back G f) s = true) (h2 : isFirst G.toDep (f ++ c ++ back G f).reverse (G.inv s) = true) : isFirst G.toDep f s = true := by
  cases hf : isFirst G.toDep f s with
  | true => rfl
  | false =>
    exfalso
    rw [List.append_assoc, z41, hf] at h1
    have e : (f ++ c ++ back G f).reverse = f.map G.inv ++ (c.reverse ++ f.reverse) := by simp [back]
    rw [e, z41, z7p, hf] at h2
    have n1 := h1.resolve_left (by simp)
    have n2 := h2.resolve_left (by simp)
    obtain ⟨m1, k1⟩ := n1
    obtain ⟨m2, k2⟩ := n2
    have hno : ∀ y ∈ f, G.d y s = false := m1
    refine hc ⟨?_, ?_⟩
    · rcases z41.1 k1 with h | ⟨_, h⟩
      · exact h
      · exfalso
        have hm := z1r h
        unfold back at hm
        obtain ⟨y, hy, e⟩ := List.mem_map.1 (List.mem_reverse.1 hm)
        have := hno y hy
        rw [← e, Grp.dinv', G.refl] at this
        cases this
    · rcases z41.1 k2 with h | ⟨_, h⟩
      · exact h
      · exfalso
        have hm := List.mem_reverse.1 (z1r h)
        have := hno _ hm
        rw [G.dinv, G.refl] at this
        cases this
theorem teq_mid {s t : α} {u v : List α} (h : teq G.toDep (s :: (u ++ [t])) (s :: (v ++ [t]))) : teq G.toDep u v := by
  have h1 := h.erase s
  rw [List.erase_cons_head, List.erase_cons_head] at h1
  have h2 := h1.reverse.erase t
  rw [List.reverse_append, List.reverse_append] at h2
  simp only [List.reverse_cons, List.reverse_nil, List.nil_append, List.singleton_append, List.erase_cons_head] at h2
  have h3 := h2.reverse
  rwa [List.reverse_reverse, List.reverse_reverse] at h3
theorem zgb : ∀ (f : List α) {c f' c' : List α}, teq G.toDep (f ++ c ++ back G f) (f' ++ c' ++ back G f') → (∀ s, s ∈ f' → ¬ bothE G c s) → (∀ s, s ∈ f → ¬ bothE G c' s) → teq G.toDep f f' ∧ teq G.toDep c c'
  | [], c, f', c', h, hc, hc' => by
    have hb : back G ([] : List α) = [] := rfl
    rw [hb, List.nil_append, List.append_nil] at h
    cases f' with
    | nil =>
      rw [hb, List.nil_append, List.append_nil] at h
      exact ⟨teq.refl _, h⟩
    | cons s f1 =>
      exfalso
      refine hc s List.mem_cons_self ⟨?_, ?_⟩
      · rw [h.first, List.append_assoc, List.cons_append]; simp [isFirst]
      · rw [h.reverse.first, z4e]; simp [isFirst]
  | s :: f1, c, f', c', h, hc, hc' => by
    have a1 : isFirst G.toDep (f' ++ c' ++ back G f') s = true := by
      rw [← h.first, List.append_assoc, List.cons_append]; simp [isFirst]
    have a2 : isFirst G.toDep (f' ++ c' ++ back G f').reverse (G.inv s) = true := by
      rw [← h.reverse.first, z4e]; simp [isFirst]
    have hs := zn4 (hc' s List.mem_cons_self) a1 a2
    have ht := z78 hs
    have h2 : teq G.toDep (f' ++ c' ++ back G f') ((s :: f'.erase s) ++ c' ++ back G (s :: f'.erase s)) := (ht.symm.append (teq.refl c')).append (z8i ht.symm)
    have h3 := h.trans h2
    rw [z4e, z4e] at h3
    have e1 : ∀ (x y z : List α) (t : α), (s :: x) ++ y ++ (z ++ [t]) = s :: ((x ++ y ++ z) ++ [t]) := fun x y z t => by simp
    rw [e1, e1] at h3
    have h4 := teq_mid h3
    obtain ⟨r1, r2⟩ := zgb f1 h4 (fun x hx => hc x (List.mem_of_mem_erase hx)) (fun x hx => hc' x (List.mem_cons_of_mem _ hx))
    exact ⟨(r1.cons s).trans ht, r2⟩
end
end Gp

end

section
namespace Gp
section
variable {G : Grp Int} {T : Dep Int}
theorem zcn {r : List Int} {a : Int} {k : Nat} (hk : 1 ≤ k) (h : isFirst T r a = true) : isFirst T (reps r k) a = true := by
  obtain ⟨j, rfl⟩ : ∃ j, k = j + 1 := ⟨k - 1, by omega⟩
  rw [z1m, z41]
  exact .inl h
theorem zim (r : List Int) : ∀ k, (reps r k).reverse = reps r.reverse k
  | 0 => rfl
  | k + 1 => by
    rw [z1m, List.reverse_append, zim r k]
    have := z9y r.reverse k 1
    rw [z9z] at this
    exact this.symm
theorem zm1 {r : List Int} {s : Int} {k : Nat} (hk : 1 ≤ k) (h : bothE G r s) : bothE G (reps r k) s :=
  ⟨zcn hk h.1, by rw [zim]; exact zcn hk h.2⟩
theorem zm2 {u v : List Int} (h : teq G.toDep u v) {s : Int} (hu : bothE G u s) : bothE G v s :=
  ⟨by rw [← h.first]; exact hu.1, by rw [← h.reverse.first]; exact hu.2⟩
theorem zni {g r b : List Int} {a : Int} {k : Nat} (hk : 1 ≤ k) (h : isFirst T (g ++ r ++ b) a = true) : isFirst T (g ++ reps r k ++ b) a = true := by
  rw [List.append_assoc, z41] at h ⊢
  rcases h with h | ⟨h1, h2⟩
  · exact .inl h
  · refine .inr ⟨h1, ?_⟩
    rw [z41] at h2 ⊢
    rcases h2 with h2 | ⟨h2, h3⟩
    · exact .inl (zcn hk h2)
    · exact .inr ⟨fun y hy => h2 y (zdj hy), h3⟩
theorem zih : ∀ (u : List Int) {v : List Int}, red G (u ++ v) → red G v
  | [], _, h => h
  | _ :: u, _, h => zih u h.2
theorem zig {r b : List Int} {k : Nat} (hk : 1 ≤ k) : ∀ (g : List Int), red G (g ++ reps r k ++ b) → red G (g ++ r ++ b)
  | [], h => by
    obtain ⟨j, rfl⟩ : ∃ j, k = j + 1 := ⟨k - 1, by omega⟩
    rw [List.nil_append] at h ⊢
    have := z9y r j 1
    rw [z9z] at this
    rw [this, List.append_assoc] at h
    exact zih _ h
  | x :: g, h => by
    refine ⟨?_, zig hk g h.2⟩
    cases e : isFirst G.toDep (g ++ r ++ b) (G.inv x) with
    | false => rfl
    | true =>
      have h1 : isFirst G.toDep (g ++ reps r k ++ b) (G.inv x) = false := h.1
      have h2 := zni (T := G.toDep) hk e
      rw [h2] at h1
      cases h1
theorem z8w {w : List Int} : (fold G w []).length = w.length ↔ red G w := by
  constructor
  · intro h
    have h1 := z7g w [] (by simpa using h)
    rw [List.append_nil] at h1
    have h2 := z4n (G := G) w red_nil
    rw [h1] at h2
    have := z9v h2
    rwa [List.reverse_reverse] at this
  · intro h
    rw [zc7 _ w rfl (z9v h), List.length_reverse]
theorem z4g (r : List Int) : ∀ k, back G (reps r k) = reps (back G r) k
  | 0 => rfl
  | k + 1 => by
    rw [z1m, z8l, z4g r k]
    have := z9y (back G r) k 1
    rw [z9z] at this
    exact this.symm
theorem ztm {m : Nat} {u : List Int} (hu : Wd m u) (hb : Wd m (back G u)) (hi : ∀ {x : List Int}, Wd m x → Wd m (back G x)) (hne : u ≠ []) :
    rootK G.toDep m (back G u) = rootK G.toDep m u ∧ rootW G.toDep m (back G u) = nform G.toDep m (back G (rootW G.toDep m u)) := by
  have hg : ∀ j, 1 ≤ j → goodK G.toDep m (back G u) j = goodK G.toDep m u j := by
    intro j hj
    rw [Bool.eq_iff_iff, z5v hb hj, z5v hu hj]
    constructor
    · rintro ⟨s, hs⟩
      refine ⟨back G s, ?_⟩
      have := z8i hs
      rwa [zbe, z4g] at this
    · rintro ⟨s, hs⟩
      refine ⟨back G s, ?_⟩
      have := z8i hs
      rwa [z4g] at this
  have hF : ∀ n, rootF G.toDep m (back G u) n = rootF G.toDep m u n := by
    intro n
    induction n with
    | zero => rfl
    | succ n ih => rw [rootF, rootF, hg _ (by omega), ih]
  have hlen := z4f (G := G) u
  obtain ⟨h1, h2, _, _, _⟩ := z6i (T := G.toDep) hu hne
  unfold rootK at h1 h2
  unfold rootW at h2
  unfold rootK rootW
  rw [hlen, hF]
  refine ⟨rfl, ?_⟩
  cases e : rootF G.toDep m u u.length with
  | some k =>
    rw [e] at h1 h2
    have hk : 1 ≤ k := h1
    have h2' : teq G.toDep u (reps (nform G.toDep m (fr u k)) k) := h2
    have hb2 := z8i h2'
    rw [z4g] at hb2
    have h5 := fr_teq hb2 k
    rw [fr_reps _ hk] at h5
    exact h5.nform m
  | none =>
    have hs := z8i (z1u (T := G.toDep) hu)
    exact hs.symm.nform m
end
end Gp

end
