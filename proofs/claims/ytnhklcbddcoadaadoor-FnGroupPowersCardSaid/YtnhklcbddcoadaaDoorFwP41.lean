/- Roots: both functions look for the greatest k of which the word is a power. -/
import Derived.Test.YtnhklcbddcoadaaDoorFwP26
import Derived.Test.YtnhklcbddcoadaaDoorFwP18
import Derived.Test.YtnhklcbddcoadaaDoorFwMp
import Derived.Test.YtnhklcbddcoadaaDoorGrF
import Derived.Test.YtnhklcbddcoadaaDoorFwG30
import Derived.Test.YtnhklcbddcoadaaDoorFwG31
import Derived.Test.YtnhklcbddcoadaaDoorFwG11
set_option linter.unusedVariables false
set_option linter.unusedSimpArgs false
set_option linter.unusedSectionVars false
section
set_option maxRecDepth 20000
namespace Go.PR.S
open Go Go.PR Go.Proofs Gp
def cm (w : List Int) : Nat → List MEnt
  | 0 => []
  | i + 1 => mset (.int .i64) (cm w i) (w.getD i 0, 0) ((mget (.int .i64) (cm w i) (w.getD i 0, 0)).getD 0 + 1)
theorem cm_rec (w : List Int) (i : Nat) : cm w (i + 1) = Option.rec (motive := fun _ => List MEnt) (cm w i ++ [((w.getD i 0, 0), (mget (.int .i64) (cm w i) (w.getD i 0, 0)).getD 0 + 1)])
    (fun val => Prod.casesOn val fun fst snd => (cm w i).set fst ((w.getD i 0, 0), (mget (.int .i64) (cm w i) (w.getD i 0, 0)).getD 0 + 1)) (mfind (.int .i64) (w.getD i 0, 0) (cm w i) 0) := by
  rw [cm]
  unfold mset
  cases mfind (.int .i64) (w.getD i 0, 0) (cm w i) 0 <;> rfl
theorem cm_get {w : List Int} : ∀ {i : Nat}, i ≤ w.length → ∀ a, (mget (.int .i64) (cm w i) (a, 0)).getD 0 = ((w.take i).count a : Nat)
  | 0, _, a => by simp [cm, zi0]
  | i + 1, hi, a => by
    have ih := cm_get (w := w) (i := i) (by omega)
    rw [cm, zhz, z8h (by omega)]
    by_cases h : w.getD i 0 = a
    · rw [if_pos h, if_pos h, h, ih]; rfl
    · rw [if_neg h, if_neg h, ih]; rfl
theorem take_le (w : List Int) (i : Nat) (a : Int) : (w.take i).count a ≤ w.length := by
  have h1 := List.count_le_length (a := a) (l := w.take i)
  rw [List.length_take] at h1
  omega
theorem zu3 {w : List Int} {k : Nat} (hl : w.length ≤ 24) (hk : 0 < k ∧ k ≤ 24) : Runs X F.zm [lD w, iD k] [] (rowR (fr w k)) := by
  have l1 : WL F.zm 0 Tryd.f85 0 (z2v w k 0 []) (z4q w k (cm w w.length)) := by
    refine loop_to (N := w.length) (st := fun i => z2v w k i (cm w i)) (fun i hi Q hq => ?_) (fun Q hq => ?_)
    · have g := cm_get (w := w) (i := i) (by omega) (w.getD i 0)
      have hb := take_le w i (w.getD i 0)
      rw [cm_rec] at hq
      apply zpc
      case hq => exact hq
      all_goals first | omega | (rw [g]; omega)
    · apply zpd
      case hq => exact hq
      all_goals omega
  have l2 : WL F.zm 2 Tryd.f85 1 (z2w w k (cm w w.length) 0 [] []) (z92 (fr w k)) := by
    refine loop_to (N := w.length) (st := fun i => z2w w k (cm w w.length) i (fk (fun a => w.count a / k) w i) (cm w i)) (fun i hi Q hq => ?_) (fun Q hq => ?_)
    · have g := cm_get (w := w) (i := i) (by omega) (w.getD i 0)
      have g2 := cm_get (w := w) (i := i + 1) (by omega) (w.getD i 0)
      have g3 := cm_get (w := w) (Nat.le_refl _) (w.getD i 0)
      have hb := take_le w i (w.getD i 0)
      rw [z8h hi, if_pos rfl] at g2
      rw [List.take_length] at g3
      have hcl := List.count_le_length (a := w.getD i 0) (l := w)
      have hfl := fk_len (fun a => w.count a / k) w i
      have e1 : fk (fun a => w.count a / k) w (i + 1) = fk (fun a => w.count a / k) w i ++ (if (w.take i).count (w.getD i 0) < w.count (w.getD i 0) / k then [w.getD i 0] else []) := rfl
      have hmul : ((w.take i).count (w.getD i 0) + 1) * k ≤ 25 * 24 := Nat.mul_le_mul (by omega) hk.2
      have hmulI : (((w.take i).count (w.getD i 0) + 1 : Nat) : Int) * (k : Int) ≤ 600 := by have := Int.ofNat_le.2 hmul; rw [Int.natCast_mul] at this; omega
      have hmul0 : 0 ≤ (((w.take i).count (w.getD i 0) + 1 : Nat) : Int) * (k : Int) := Int.mul_nonneg (by omega) (by omega)
      have b1 : -9223372036854775808 ≤ (mget (.int .i64) (cm w (i + 1)) (w.getD i 0, 0)).getD 0 * (k : Int) := by rw [g2]; omega
      have b2 : (mget (.int .i64) (cm w (i + 1)) (w.getD i 0, 0)).getD 0 * (k : Int) ≤ 9223372036854775807 := by rw [g2]; omega
      by_cases hc : (w.take i).count (w.getD i 0) < w.count (w.getD i 0) / k
      · have hc2 : ((w.take i).count (w.getD i 0) + 1) * k ≤ w.count (w.getD i 0) := (Nat.le_div_iff_mul_le hk.1).1 hc
        have b3 : (mget (.int .i64) (cm w (i + 1)) (w.getD i 0, 0)).getD 0 * (k : Int) ≤ (mget (.int .i64) (cm w w.length) (w.getD i 0, 0)).getD 0 := by
          rw [g2, g3, ← Int.natCast_mul]; exact Int.ofNat_le.2 hc2
        rw [e1, if_pos hc, cm_rec] at hq
        rw [cm_rec] at b1 b2 b3
        apply zpe
        case hq => exact hq
        case l6 => exact l1
        case h8 => rw [g]; omega
        case h9 => rw [g]; omega
        case h10 => exact b1
        case h11 => exact b2
        case h12 => exact b3
        all_goals omega
      · have b3 : ¬ (mget (.int .i64) (cm w (i + 1)) (w.getD i 0, 0)).getD 0 * (k : Int) ≤ (mget (.int .i64) (cm w w.length) (w.getD i 0, 0)).getD 0 := by
          rw [g2, g3, ← Int.natCast_mul]
          intro h
          exact hc ((Nat.le_div_iff_mul_le hk.1).2 (Int.ofNat_le.1 h))
        rw [e1, if_neg hc, List.append_nil, cm_rec] at hq
        rw [cm_rec] at b1 b2 b3
        apply zpf
        case hq => exact hq
        case l6 => exact l1
        case h8 => rw [g]; omega
        case h9 => rw [g]; omega
        case h10 => exact b1
        case h11 => exact b2
        case h15 => exact b3
        all_goals omega
    · apply zpg
      case hq => exact hq
      all_goals first | exact l1 | omega
  exact zpb l1 l2
def conL (m : Nat) (w : List Int) : List Int := (List.range m).map fun i : Nat => ((w.count (i : Int) : Nat) : Int)
theorem z1y (m : Nat) (w : List Int) : (conL m w).length = m := by simp [conL]
theorem z2r {m : Nat} {w : List Int} {i : Nat} (hi : i < m) : (conL m w).getD i 0 = ((w.count (i : Int) : Nat) : Int) := by
  unfold conL
  rw [List.getD_eq_getElem?_getD, List.getElem?_map, List.getElem?_range hi]
  rfl
theorem zmg {m : Nat} {w : List Int} {i x : Nat} (hi : i < w.length) (hx : w.getD i 0 = (x : Int)) (hxm : x < m) : (conL m (w.take i)).set x ((conL m (w.take i)).getD x 0 + 1) = conL m (w.take (i + 1)) := by
  apply List.ext_getElem
  · simp [conL]
  · intro j h1 h2
    have hj : j < m := by rw [z1y] at h2; exact h2
    have e2 : (conL m (w.take (i + 1)))[j] = (((w.take (i + 1)).count (j : Int) : Nat) : Int) := by
      have := z2r (m := m) (w := w.take (i + 1)) hj
      rwa [getD_lt h2] at this
    rw [e2, List.getElem_set, z8h hi, hx]
    by_cases hxj : x = j
    · subst hxj
      rw [if_pos rfl, if_pos rfl, z2r hxm]
      rfl
    · have h3 : ¬ (x : Int) = (j : Int) := by omega
      rw [if_neg hxj, if_neg h3]
      have := z2r (m := m) (w := w.take i) hj
      rw [getD_lt (by rw [z1y]; exact hj)] at this
      rw [this]; rfl
theorem za5 {m : Nat} (hm : m ≤ 62) (d : List Int) {w : List Int} (hw : Wd m w) (hl : w.length ≤ B40) : Runs X F.zo [alD m d, lD w] [] (rowR (conL m w)) := by
  have lp : WL F.zo 0 Tryd.f68 0 (z5f m w 0 (List.replicate (m : Int).toNat 0)) (z8d m (conL m w)) := by
    have := loop_to (f := F.zo) (b := 0) (body := lb Tryd.f68 0) (N := w.length) (o := z8d m (conL m w)) (st := fun i => z5f m w i (conL m (w.take i))) (fun i hi Q hq => ?_) (fun Q hq => ?_)
    · have e : conL m (w.take 0) = List.replicate (m : Int).toNat 0 := by
        apply List.ext_getElem
        · simp [conL]
        · intro j h1 h2; simp [conL]
      rw [e] at this
      exact this
    · have hx := hw (w.getD i 0) (by rw [getD_lt hi]; exact List.getElem_mem hi)
      obtain ⟨x, hxe⟩ : ∃ x : Nat, w.getD i 0 = (x : Int) := ⟨(w.getD i 0).toNat, by omega⟩
      rw [hxe] at hx
      have hxm : x < m := by omega
      have hs := zmg hi hxe hxm
      have hg := z2r (m := m) (w := w.take i) hxm
      have hb := take_le w i (x : Int)
      have e0 : 0 + (w.getD i 0).toNat = x := by rw [hxe]; simp
      apply zy3
      case hq => rw [e0, hs]; exact hq
      all_goals first | (rw [e0, hg]; unfold B40 at hl; omega) | (rw [z1y]; simp; done) | (rw [hxe]; omega) | (unfold B40 at hl; omega)
    · apply zy4
      case hq => rw [List.take_length]; exact hq
      all_goals first | (rw [z1y]; simp; done) | (unfold B40 at hl; omega)
  have := zy2 (n := (m : Int)) (d := d) (w := w) (r5az := conL m w) (by omega) (by omega) lp
  rw [show (m : Int).toNat = (conL m w).length by rw [z1y]; simp] at this
  exact this
section
variable {T : Dep Int} {m : Nat} {t : List Int}
theorem zuh (ht : Tab T m t) {u v : List Int} (hu : Wd m u) (hv : Wd m v) (lu : u.length ≤ B40) (lv : v.length ≤ B40) : Runs X F.z7o [lD t, lD u, lD v] [] (boolR (decide (nform T m u = nform T m v))) :=
  zra (z57 ht hu lu) (z57 ht hv lv) (ztu _ _ (by rw [z7u hu]; exact lu))
theorem zub (ht : Tab T m t) {u v : List Int} (hu : Wd m u) (hv : Wd m v) (lu : u.length ≤ B40) (lv : v.length ≤ B40) : Runs X F.z1f [alD m t, lD u, lD v] [] (boolR (decide (nform T m u = nform T m v))) := by
  have key : ∀ (k i : Nat) (rest : List Int), i + k = u.length → Wd m rest → rest.length ≤ B40 →
      (WL F.z1f 0 Tryd.f69 0 (z2e m t u i rest) (z8e rest) ∧ ¬ teq T (u.drop i) rest) ∨
      ∃ r, WL F.z1f 0 Tryd.f69 0 (z2e m t u i rest) (zax r) ∧ (teq T (u.drop i) rest ↔ r = []) ∨
        WL F.z1f 0 Tryd.f69 0 (z2e m t u i rest) (z8e r) ∧ ¬ teq T (u.drop i) rest := by
    intro k
    induction k with
    | zero =>
      intro i rest hi hr hl
      refine .inr ⟨rest, .inl ⟨?_, ?_⟩⟩
      · apply zyj
        case hq => rfl
        all_goals omega
      · rw [List.drop_eq_nil_of_le (by omega)]
        constructor
        · intro h; exact List.eq_nil_of_length_eq_zero h.length.symm
        · intro h; rw [h]; exact teq.refl _
    | succ k ih =>
      intro i rest hi hr hl
      have hlt : i < u.length := by omega
      have hx := hu (u.getD i 0) (by rw [getD_lt hlt]; exact List.getElem_mem hlt)
      have c1 := z3f ht (m : Int) hr hx hl
      have ed : u.drop i = u.getD i 0 :: u.drop (i + 1) := by rw [getD_lt hlt]; exact List.drop_eq_getElem_cons hlt
      by_cases hf : isFirst T rest (u.getD i 0) = true
      · rw [if_pos hf] at c1
        have hmem := z1r hf
        have hix : rest.idxOf (u.getD i 0) < rest.length := List.idxOf_lt_length_of_mem hmem
        have c2 := z46 hix hl
        rw [z5t] at c2
        have le := List.length_erase_le (a := u.getD i 0) (l := rest)
        have hiff : teq T (u.drop i) rest ↔ teq T (u.drop (i + 1)) (rest.erase (u.getD i 0)) := by
          rw [ed, zl4]; exact ⟨fun h => h.2, fun h => ⟨hf, h⟩⟩
        have stepW : ∀ {o : OutL}, WL F.z1f 0 Tryd.f69 0 (z2e m t u (i + 1) (rest.erase (u.getD i 0))) o → WL F.z1f 0 Tryd.f69 0 (z2e m t u i rest) o := by
          intro o h
          apply zyi
          case hq => exact h
          all_goals first | exact c1 | exact c2 | omega | (unfold B40 at lu; omega)
        rcases ih (i + 1) (rest.erase (u.getD i 0)) (by omega) (hr.erase _) (by omega) with ⟨h1, h2⟩ | ⟨r, ⟨h1, h2⟩ | ⟨h1, h2⟩⟩
        · exact .inr ⟨_, .inr ⟨stepW h1, fun h => h2 (hiff.1 h)⟩⟩
        · exact .inr ⟨r, .inl ⟨stepW h1, hiff.trans h2⟩⟩
        · exact .inr ⟨r, .inr ⟨stepW h1, fun h => h2 (hiff.1 h)⟩⟩
      · rw [if_neg hf] at c1
        refine .inl ⟨?_, fun h => hf ?_⟩
        · apply zyh
          case hq => rfl
          all_goals first | exact c1 | omega
        · rw [ed] at h
          exact (zl4.1 h).1
  have c0 := z56 v (by unfold B40 at *; omega)
  have hiff : teq T (u.drop 0) v ↔ nform T m u = nform T m v := by rw [List.drop_zero]; exact (z9p hu hv).symm
  rcases key u.length 0 v (by omega) hv lv with ⟨h1, h2⟩ | ⟨r, ⟨h1, h2⟩ | ⟨h1, h2⟩⟩
  · rw [decide_eq_false fun h => h2 (hiff.2 h)]
    exact zk9 c0 h1
  · have := zyg c0 h1
    have e : (((r.length : Nat) : Int) == 0) = decide (nform T m u = nform T m v) := by
      by_cases hr : r = []
      · subst hr
        rw [decide_eq_true (hiff.1 (h2.2 rfl))]; rfl
      · rw [decide_eq_false fun h => hr (h2.1 (hiff.2 h))]
        have := List.length_pos_iff.2 hr
        simp; exact hr
    rw [e] at this
    exact this
  · rw [decide_eq_false fun h => h2 (hiff.2 h)]
    exact zk9 c0 h1
end
end Go.PR.S

end

section
set_option maxRecDepth 20000
namespace Go.PR.S
open Go Go.PR Go.Proofs Gp
theorem zmf {m : Nat} {l : List Int} {x : Nat} (hxm : x < m) : (conL m l).set x ((conL m l).getD x 0 + 1) = conL m (l ++ [(x : Int)]) := by
  apply List.ext_getElem
  · simp [conL]
  · intro j h1 h2
    have hj : j < m := by rw [z1y] at h2; exact h2
    have e2 : (conL m (l ++ [(x : Int)]))[j] = (((l ++ [(x : Int)]).count (j : Int) : Nat) : Int) := by
      have := z2r (m := m) (w := l ++ [(x : Int)]) hj
      rwa [getD_lt h2] at this
    rw [e2, List.getElem_set, List.count_append, List.count_singleton]
    by_cases hxj : x = j
    · subst hxj
      rw [if_pos rfl, z2r hxm]
      simp
    · have h3 : ¬ (x : Int) = (j : Int) := by omega
      rw [if_neg hxj]
      have := z2r (m := m) (w := l) hj
      rw [getD_lt (by rw [z1y]; exact hj)] at this
      rw [this]; simp [h3]
def fitB (w : List Int) (k i : Nat) : Bool := (List.range i).all fun a => decide (w.count (a : Int) % k = 0)
theorem zg5 (w : List Int) (k i : Nat) : fitB w k (i + 1) = (fitB w k i && decide (w.count (i : Int) % k = 0)) := by
  unfold fitB
  rw [List.range_succ, List.all_append]
  simp
section
variable {T : Dep Int} {m : Nat} {t : List Int}
theorem znm (ht : Tab T m t) {w : List Int} (hw : Wd m w) (hl : w.length ≤ 24) {k : Nat} (hk : 1 < k) :
    WL F.z7 2 Tryd.f34 1 (z2g m t w (conL m w) k true 0) (z6z m t w (conL m w) k (fitB w k m)) := by
  have c2 := za5 ht.small t hw (by unfold B40; omega)
  refine loop_to (N := m) (st := fun i => z2g m t w (conL m w) k (fitB w k i) i) (fun i hi Q hq => ?_) (fun Q hq => ?_)
  · have hs := ht.small
    cases hb : fitB w k i with
    | true =>
      apply zyv
      case hq =>
        have e : (((conL m w).getD (0 + i) 0).tmod (k : Int) == 0) = fitB w k (i + 1) := by
          rw [zg5, hb, Bool.true_and, Nat.zero_add, z2r hi, ← Int.ofNat_tmod]
          by_cases h0 : w.count (i : Int) % k = 0
          · rw [h0]; rfl
          · rw [decide_eq_false h0]
            simp only [beq_eq_false_iff_ne]
            omega
        rw [e]; exact hq
      all_goals first | exact c2 | (rw [z1y]; omega) | omega | rfl
    | false =>
      apply zyw
      case hq =>
        have e : fitB w k (i + 1) = false := by rw [zg5, hb]; rfl
        simp only [e] at hq
        exact hq
      all_goals first | exact c2 | omega | rfl
  · apply zyx
    case hq => exact hq
    all_goals first | exact c2 | omega
theorem z113 (ht : Tab T m t) {w : List Int} (hw : Wd m w) (hl : w.length ≤ 24) {k : Nat} (hk : 1 < k) :
    WL F.z7 4 Tryd.f34 2 (z2o m t w (conL m w) k 0 (List.replicate (m : Int).toNat 0) []) (z70 m t w (conL m w) k (fr w k)) := by
  have c2 := za5 ht.small t hw (by unfold B40; omega)
  have hs := ht.small
  have := loop_to (f := F.z7) (b := 4) (body := lb Tryd.f34 2) (N := w.length) (o := z70 m t w (conL m w) k (fr w k))
    (st := fun i => z2o m t w (conL m w) k i (conL m (fk (fun a => w.count a / k) w i)) (fk (fun a => w.count a / k) w i)) (fun i hi Q hq => ?_) (fun Q hq => ?_)
  · have e : conL m (fk (fun a => w.count a / k) w 0) = List.replicate (m : Int).toNat 0 := by
      apply List.ext_getElem
      · simp [conL]
      · intro j h1 h2; simp [conL, fk]
    rw [e] at this
    exact this
  · have hx := hw (w.getD i 0) (by rw [getD_lt hi]; exact List.getElem_mem hi)
    obtain ⟨x, hxe⟩ : ∃ x : Nat, w.getD i 0 = (x : Int) := ⟨(w.getD i 0).toNat, by omega⟩
    rw [hxe] at hx
    have hxm : x < m := by omega
    have hfl := fk_len (fun a => w.count a / k) w i
    have hc := zc1 (fun a => w.count a / k) w i (by omega) (x : Int)
    have e0 : 0 + (w.getD i 0).toNat = x := by rw [hxe]; simp
    have g1 := z2r (m := m) (w := fk (fun a => w.count a / k) w i) hxm
    have g2 := z2r (m := m) (w := w) hxm
    have hb := take_le w i (x : Int)
    have hcl := List.count_le_length (a := (x : Int)) (l := w)
    have hdl := Nat.div_le_self (w.count (x : Int)) k
    have e1 : fk (fun a => w.count a / k) w (i + 1) = fk (fun a => w.count a / k) w i ++ (if (w.take i).count (x : Int) < w.count (x : Int) / k then [(x : Int)] else []) := by
      rw [fk, hxe]
    have d1 : ((conL m w).getD (0 + (w.getD i 0).toNat) 0).tdiv (k : Int) = ((w.count (x : Int) / k : Nat) : Int) := by
      rw [e0, g2, ← Int.ofNat_tdiv]
    by_cases hlt : (w.take i).count (x : Int) < w.count (x : Int) / k
    · simp only [e1, if_pos hlt] at hq
      rw [← zmf hxm] at hq
      apply zyy
      case hq => rw [e0, hxe]; exact hq
      all_goals first | exact c2 | (rw [d1]; omega) | (rw [d1, e0, g1, hc]; omega) | (rw [e0, g1, hc]; omega) | (rw [z1y]; first | omega | (simp; done)) | (rw [hxe, z1y]; omega) | (rw [hxe]; omega) | omega
    · simp only [e1, if_neg hlt, List.append_nil] at hq
      apply zyz
      case hq => exact hq
      all_goals first | exact c2 | (rw [d1]; omega) | (rw [d1, e0, g1, hc]; omega) | (rw [e0, g1, hc]; omega) | (rw [z1y]; first | omega | (simp; done)) | (rw [hxe, z1y]; omega) | (rw [hxe]; omega) | omega
  · apply zz0
    case hq => exact hq
    all_goals first | exact c2 | (rw [z1y]; first | omega | (simp; done)) | omega
theorem fit_iff {w : List Int} (hw : Wd m w) (k : Nat) : fitB w k m = true ↔ (fr w k).length * k = w.length := by
  rw [znr hw]
  unfold fitB
  simp
theorem ztn (ht : Tab T m t) {w : List Int} (hw : Wd m w) (hl : w.length ≤ 24) : ∀ (k : Nat), k ≤ w.length →
    (match rootF T m w k with
      | some q => WL F.zw 0 Tryd.f42 0 (z1k t w k) (z9b t w q (nform T m (fr w q))) ∧ WL F.z7 0 Tryd.f34 0 (z1n m t w (conL m w) k) (zaz m t w q (nform T m (fr w q)))
      | none => WL F.zw 0 Tryd.f42 0 (z1k t w k) (z9c t w) ∧ WL F.z7 0 Tryd.f34 0 (z1n m t w (conL m w) k) (zb0 m t w)) := by
  have c2 := za5 ht.small t hw (by unfold B40; omega)
  have hs := ht.small
  intro k
  induction k with
  | zero =>
    intro _
    simp only [rootF]
    constructor
    · apply zh5
      case hq => rfl
      all_goals omega
    · apply zkb
      case hq => rfl
      all_goals first | exact c2 | omega
  | succ k ih =>
    intro hk
    by_cases hk1 : k = 0
    · subst hk1
      have e : rootF T m w (0 + 1) = none := by simp [rootF]
      rw [e]
      constructor
      · apply zh5
        case hq => rfl
        all_goals omega
      · apply zkb
        case hq => rfl
        all_goals first | exact c2 | omega
    have ih := ih (by omega)
    have hk2 : 1 < k + 1 := by omega
    have hfW : Wd m (fr w (k + 1)) := fun x hx => hw x (fr_mem hx)
    have hfl := fr_len w (k + 1)
    have hfit := fit_iff hw (k + 1)
    have c5 := zu3 (k := k + 1) hl (by omega)
    have c7 := z94 (w := fr w (k + 1))
    have c11 := z94 (w := w)
    have l11 := znm ht hw hl (k := k + 1) hk2
    have l31 := z113 ht hw hl (k := k + 1) hk2
    have hmul : (fr w (k + 1)).length * (k + 1) ≤ 24 * 25 := Nat.mul_le_mul (by omega) (by omega)
    have hmulI : (((fr w (k + 1)).length : Nat) : Int) * (((k + 1 : Nat)) : Int) ≤ 600 := by have := Int.ofNat_le.2 hmul; rw [Int.natCast_mul] at this; omega
    have hmul0 : 0 ≤ (((fr w (k + 1)).length : Nat) : Int) * (((k + 1 : Nat)) : Int) := Int.mul_nonneg (by omega) (by omega)
    have ek : (((k + 1 : Nat)) : Int) - 1 = (k : Int) := by omega
    by_cases hlen : (fr w (k + 1)).length * (k + 1) = w.length
    · have hb : fitB w (k + 1) m = true := hfit.2 hlen
      rw [hb] at l11
      have hlenI : (((fr w (k + 1)).length : Nat) : Int) * (((k + 1 : Nat)) : Int) = ((w.length : Nat) : Int) := by rw [← Int.natCast_mul, hlen]
      have c14 := zdn (w := fr w (k + 1)) (K := k + 1) (by omega) (by omega)
      have c33 := zj3 (w := fr w (k + 1)) (K := k + 1) (by omega) (by omega)
      have hrl := z7y (fr w (k + 1)) (k + 1)
      have hrW : Wd m (reps (fr w (k + 1)) (k + 1)) := fun x hx => hfW x (zdj hx)
      have c16 := zuh ht hrW hw (by unfold B40; omega) (by unfold B40; omega)
      have c35 := zub ht hrW hw (by unfold B40; omega) (by unfold B40; omega)
      have erep : rep (fr w (k + 1)) (k + 1) = reps (fr w (k + 1)) (k + 1) := rfl
      rw [erep] at c14 c33
      have cn := z57 ht hfW (by unfold B40; omega)
      have cn2 := za6 ht hfW (by unfold B40; omega)
      by_cases hsame : nform T m (reps (fr w (k + 1)) (k + 1)) = nform T m w
      · have hg : goodK T m w (k + 1) = true := by simp [goodK, hlen, hsame]
        have e : rootF T m w (k + 1) = some (k + 1) := by rw [rootF, if_pos ⟨by omega, hg⟩]
        rw [e]
        rw [decide_eq_true hsame] at c16 c35
        constructor
        · apply zr6
          case hq => rfl
          all_goals first | exact c5 | exact c7 | exact c11 | exact c14 | exact c16 | exact cn | exact hlenI | omega | rfl
        · apply zyt
          case hq => rfl
          all_goals first | exact c2 | exact l11 | exact l31 | exact c33 | exact c35 | exact cn2 | omega | rfl
      · have hg : ¬ (0 < k ∧ goodK T m w (k + 1) = true) := by simp [goodK, hsame]
        have e : rootF T m w (k + 1) = rootF T m w k := by rw [rootF, if_neg hg]
        rw [e]
        rw [decide_eq_false hsame] at c16 c35
        have si : ∀ {o : OutL}, WL F.zw 0 Tryd.f42 0 (z1k t w k) o → WL F.zw 0 Tryd.f42 0 (z1k t w ((k + 1 : Nat) : Int)) o := by
          intro o h
          apply zr7
          case hq => rw [ek]; exact h
          all_goals first | exact c5 | exact c7 | exact c11 | exact c14 | exact c16 | exact hlenI | omega | rfl
        have ss : ∀ {o : OutL}, WL F.z7 0 Tryd.f34 0 (z1n m t w (conL m w) k) o → WL F.z7 0 Tryd.f34 0 (z1n m t w (conL m w) ((k + 1 : Nat) : Int)) o := by
          intro o h
          apply zyu
          case hq => rw [ek]; exact h
          all_goals first | exact c2 | exact l11 | exact l31 | exact c33 | exact c35 | omega | rfl
        cases hr : rootF T m w k with
        | none => rw [hr] at ih; exact ⟨si ih.1, ss ih.2⟩
        | some q => rw [hr] at ih; exact ⟨si ih.1, ss ih.2⟩
    · have hb : fitB w (k + 1) m = false := by
        cases h : fitB w (k + 1) m with
        | false => rfl
        | true => exact absurd (hfit.1 h) hlen
      rw [hb] at l11
      have hlenI : ¬ (((fr w (k + 1)).length : Nat) : Int) * (((k + 1 : Nat)) : Int) = ((w.length : Nat) : Int) := by
        rw [← Int.natCast_mul]; intro h; exact hlen (Int.ofNat_inj.1 h)
      have hg : ¬ (0 < k ∧ goodK T m w (k + 1) = true) := by simp [goodK, hlen]
      have e : rootF T m w (k + 1) = rootF T m w k := by rw [rootF, if_neg hg]
      rw [e]
      have si : ∀ {o : OutL}, WL F.zw 0 Tryd.f42 0 (z1k t w k) o → WL F.zw 0 Tryd.f42 0 (z1k t w ((k + 1 : Nat) : Int)) o := by
        intro o h
        apply zr8
        case hq => rw [ek]; exact h
        all_goals first | exact c5 | exact c7 | exact c11 | exact hlenI | omega | rfl
      have ss : ∀ {o : OutL}, WL F.z7 0 Tryd.f34 0 (z1n m t w (conL m w) k) o → WL F.z7 0 Tryd.f34 0 (z1n m t w (conL m w) ((k + 1 : Nat) : Int)) o := by
        intro o h
        apply zys
        case hq => rw [ek]; exact h
        all_goals first | exact c2 | exact l11 | omega | rfl
      cases hr : rootF T m w k with
      | none => rw [hr] at ih; exact ⟨si ih.1, ss ih.2⟩
      | some q => rw [hr] at ih; exact ⟨si ih.1, ss ih.2⟩
theorem zja (ht : Tab T m t) {w : List Int} (hw : Wd m w) (hl : w.length ≤ 24) :
    Runs X F.zw [lD t, lD w] [] (pairR (rootW T m w) (rootK T m w : Nat)) ∧ Runs X F.z7 [alD m t, lD w] [] (pairR (rootW T m w) (rootK T m w : Nat)) := by
  have c2 := za5 ht.small t hw (by unfold B40; omega)
  have h := ztn ht hw hl w.length (Nat.le_refl _)
  have c1 := z94 (w := w)
  have cn := z57 ht hw (by unfold B40; omega)
  have cn2 := za6 ht hw (by unfold B40; omega)
  unfold rootW rootK
  cases hr : rootF T m w w.length with
  | none =>
    rw [hr] at h
    exact ⟨zr5 c1 h.1 cn, zyr c2 h.2 cn2⟩
  | some q =>
    rw [hr] at h
    exact ⟨zr4 c1 h.1, zyq c2 h.2⟩
theorem zis {w : List Int} (hw : Wd m w) : Wd m (rootW T m w) := by
  unfold rootW
  split
  · exact fun x hx => hw x (fr_mem (((z1u (T := T) (w := fr w _) fun y hy => hw y (fr_mem hy)).mem x).1 hx))
  · exact fun x hx => hw x (((z1u (T := T) hw).mem x).1 hx)
theorem zdk {w : List Int} (hw : Wd m w) : (rootW T m w).length ≤ w.length := by
  unfold rootW
  split
  · rw [z7u fun y hy => hw y (fr_mem hy)]; exact fr_len _ _
  · rw [z7u hw]; exact Nat.le_refl _
end
end Go.PR.S

end
