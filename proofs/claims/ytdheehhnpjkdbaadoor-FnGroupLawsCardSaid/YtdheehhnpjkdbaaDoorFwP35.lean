/- Exponents. -/
import Derived.Test.YtdheehhnpjkdbaaDoorFwP31
import Derived.Test.YtdheehhnpjkdbaaDoorGrE
import Derived.Test.YtdheehhnpjkdbaaDoorFwP33
section
/- Exponents. -/
set_option linter.unusedVariables false
set_option linter.unusedSimpArgs false
set_option maxRecDepth 20000
namespace Go.PR.S
open Go Go.PR Go.Proofs Gp

section
variable {N : Nat} {d : List Int}

def expo (ha : Al N d) (U : List Int) : List Int := (List.range N).map fun i : Nat => diff (grp ha) (2 * (i : Int)) U

theorem expo_length (ha : Al N d) (U : List Int) : (expo ha U).length = N := by unfold expo; simp

theorem expo_getD (ha : Al N d) (U : List Int) {i : Nat} (h : i < N) : (expo ha U).getD i 0 = diff (grp ha) (2 * (i : Int)) U := by
  unfold expo
  rw [List.getD_eq_getElem?_getD, List.getElem?_map, List.getElem?_range h]; rfl

theorem diff_bd (ha : Al N d) (a : Int) (U : List Int) : -(U.length : Int) ≤ diff (grp ha) a U ∧ diff (grp ha) a U ≤ U.length := by
  unfold diff
  have h1 := List.count_le_length (a := a) (l := U)
  have h2 := List.count_le_length (a := (grp ha).inv a) (l := U)
  omega

theorem diff_one (ha : Al N d) (j : Nat) (c : Int) : diff (grp ha) (2 * (j : Int)) [c] = if c = 2 * (j : Int) then 1 else if c = 2 * (j : Int) + 1 then -1 else 0 := by
  unfold diff
  have e : (grp ha).inv (2 * (j : Int)) = 2 * (j : Int) + 1 := by show opp (2 * (j : Int)) = _; unfold opp; rw [if_pos (by omega)]
  rw [e]
  have cnt : ∀ x y : Int, ([x].count y : Int) = if x = y then 1 else 0 := fun x y => by
    by_cases h : x = y
    · rw [if_pos h, h]; simp
    · rw [if_neg h, List.count_eq_zero_of_not_mem (by simpa using fun e => h e.symm)]; rfl
  rw [cnt, cnt]
  by_cases h1 : c = 2 * (j : Int)
  · rw [if_pos h1, if_pos h1, if_neg (by omega)]; rfl
  · rw [if_neg h1, if_neg h1]
    by_cases h2 : c = 2 * (j : Int) + 1
    · rw [if_pos h2, if_pos h2]; rfl
    · rw [if_neg h2, if_neg h2]; rfl

theorem expo_step (ha : Al N d) (U : List Int) (c : Int) {k : Nat} (hk : k < N) (e : Int) (hc : (c = 2 * (k : Int) ∧ e = 1) ∨ (c = 2 * (k : Int) + 1 ∧ e = -1)) :
    (expo ha U).set k ((expo ha U).getD k 0 + e) = expo ha (U ++ [c]) := by
  apply List.ext_getElem
  · rw [List.length_set, expo_length, expo_length]
  · intro j h1 h2
    rw [List.length_set, expo_length] at h1
    have g1 : ∀ V : List Int, ∀ h : j < (expo ha V).length, (expo ha V)[j] = diff (grp ha) (2 * (j : Int)) V := fun V h => by
      rw [← getD_lt h, expo_getD ha V h1]
    rw [List.getElem_set, g1 U, g1 (U ++ [c]), diff_append, diff_one, expo_getD ha U hk]
    by_cases h : k = j
    · subst h
      rw [if_pos rfl]
      rcases hc with ⟨rfl, rfl⟩ | ⟨rfl, rfl⟩
      · rw [if_pos rfl]
      · rw [if_neg (by omega), if_pos rfl]
    · rw [if_neg h]
      rcases hc with ⟨rfl, rfl⟩ | ⟨rfl, rfl⟩
      · rw [if_neg (by omega), if_neg (by omega)]; omega
      · rw [if_neg (by omega), if_neg (by omega)]; omega

theorem imp_expo (ha : Al N d) (hd : d.length ≤ B40) {w : List Int} (h0 : sgCode N d [w] = 0) : Runs X F.impl_ExponentsOf [alD N d, lD w] [] (pairR (expo ha (w.map code)) 0) := by
  obtain ⟨hN, hl, hb, hz, hW⟩ := sg_facts ha h0
  have hN8 := ha.small
  have bw : w.length ≤ B40 := by unfold B40; omega
  have c2 : Runs X F.impl_checkSigned [alD N d, .imm2 .i64 [w]] [] (intR (sgCode N d [w])) := run_checkSigned N d [w] hd (by simp [B40]) (by simp [bw])
  have e0 : List.replicate ((N : Int)).toNat (0 : Int) = expo ha [] := by
    apply List.ext_getElem
    · rw [expo_length]; simp
    · intro i h1 h2
      have h3 := h2
      rw [expo_length] at h3
      have e1 : (expo ha [])[i] = 0 := by
        rw [← getD_lt h2, expo_getD ha [] h3]; simp [diff]
      rw [e1, List.getElem_replicate]
  have hlp := loop_to (f := F.impl_ExponentsOf) (b := 0) (body := lb Tryd.f46 0) (N := w.length) (o := impl_ExponentsOf_o0_1 N (expo ha (w.map code))) (st := fun i => impl_ExponentsOf_s0 N w i (expo ha ((w.take i).map code))) (fun i hi Q hq => ?_) (fun Q hq => ?_)
  · have := impl_ExponentsOf_p2 (n := (N : Int)) c2 h0 (by omega) (by omega) (by rw [e0]; simpa using hlp)
    have e : (N : Int).toNat = (expo ha (w.map code)).length := by rw [expo_length]; simp
    rw [e] at this
    exact this
  · have hx := hb.at hi
    have hw0 : w.getD i 0 ≠ 0 := by rw [getD_lt hi]; exact hz _ (List.getElem_mem hi)
    have hwc : 0 ≤ code (w.getD i 0) ∧ code (w.getD i 0) < (2 * N : Nat) := by
      rw [getD_lt hi]; exact hW _ (List.mem_map.2 ⟨_, List.getElem_mem hi, rfl⟩)
    rw [map_take_succ hi] at hq
    have hlen := expo_length ha ((w.take i).map code)
    have hb1 : ∀ j : Nat, j < N → -24 ≤ (expo ha ((w.take i).map code)).getD j 0 ∧ (expo ha ((w.take i).map code)).getD j 0 ≤ 24 := fun j hj => by
      rw [expo_getD ha _ hj]
      have := diff_bd ha (2 * (j : Int)) ((w.take i).map code)
      rw [List.length_map, List.length_take] at this
      omega
    unfold code at hwc
    by_cases hp : w.getD i 0 > 0
    · rw [if_neg (by omega)] at hwc
      have hk : (0 + (w.getD i 0 - 1).toNat) < N := by omega
      have hbb := hb1 _ hk
      have hs := expo_step ha ((w.take i).map code) (code (w.getD i 0)) hk 1 (.inl ⟨by unfold code; rw [if_neg (by omega)]; omega, rfl⟩)
      apply impl_ExponentsOf_r0_1
      case hq => rw [hs]; exact hq
      all_goals first | omega | (simp; omega)
    · rw [if_pos (by omega)] at hwc
      have hk : (0 + (-w.getD i 0 - 1).toNat) < N := by omega
      have hbb := hb1 _ hk
      have hs := expo_step ha ((w.take i).map code) (code (w.getD i 0)) hk (-1) (.inr ⟨by unfold code; rw [if_pos (by omega)]; omega, rfl⟩)
      apply impl_ExponentsOf_r0_2
      case hq => rw [← hs] at hq; exact hq
      all_goals first | omega | (simp; omega)
  · apply impl_ExponentsOf_r0_3
    case hq => simpa using hq
    all_goals first | omega | (rw [expo_length]; simp)
end

end Go.PR.S

end

section
/- The laws of the group: plain facts. -/
set_option linter.unusedVariables false
set_option linter.unusedSimpArgs false
set_option maxRecDepth 20000
namespace Go.PR.S
open Go Go.PR Go.Proofs Gp

theorem sign_code {x : Int} (h : x ≠ 0) : sign (code x) = x := by
  unfold sign code
  by_cases hx : x < 0
  · rw [if_pos hx]; split <;> omega
  · rw [if_neg hx]; split <;> omega

theorem signs_codes {z : List Int} (h : ∀ x ∈ z, x ≠ 0) : (z.map code).map sign = z := by
  rw [List.map_map]
  conv => rhs; rw [← List.map_id z]
  exact List.map_congr_left fun x hx => sign_code (h x hx)

section
variable {N : Nat} {d : List Int}

theorem sg_letters (hal : alOK N d = true) {z : List Int} (h : ∀ x ∈ z, x ≠ 0 ∧ -(N : Int) ≤ x ∧ x ≤ N) (hl : z.length ≤ 24) : sgCode N d [z] = 0 := by
  rw [← signs_codes fun x hx => (h x hx).1]
  refine sg_signs hal (fun y hy => ?_) (by rw [List.length_map]; exact hl)
  obtain ⟨x, hx, rfl⟩ := List.mem_map.1 hy
  obtain ⟨h0, h1, h2⟩ := h x hx
  unfold code
  split <;> omega

theorem expo_add (ha : Al N d) {U V : List Int} (hU : Wd (2 * N) U) (hV : Wd (2 * N) V) {i : Nat} (h : i < N) :
    (expo ha (gnf ha (U ++ V))).getD i 0 = (expo ha U).getD i 0 + (expo ha V).getD i 0 := by
  rw [expo_getD ha _ h, expo_getD ha _ h, expo_getD ha _ h, (geq_gnf ha (Wd_append hU hV)).diff, diff_append]

theorem gnf_cancel (ha : Al N d) {U V : List Int} (hU : Wd (2 * N) U) (hV : Wd (2 * N) V) : gnf ha (gnf ha ((U.map opp).reverse) ++ gnf ha (U ++ V)) = gnf ha V := by
  have hB := Wd_back hU
  have hUV := Wd_append hU hV
  refine (gnf_geq ha (Wd_append (gnf_Wd ha hB) (gnf_Wd ha hUV)) hV).2 ?_
  refine ((geq_gnf ha hB).append (geq_gnf ha hUV)).trans ?_
  rw [← List.append_assoc]
  exact ((geq_back' U).append (geq.refl V))

theorem gnf_assoc (ha : Al N d) {U V Z : List Int} (hU : Wd (2 * N) U) (hV : Wd (2 * N) V) (hZ : Wd (2 * N) Z) :
    gnf ha (U ++ gnf ha (V ++ Z)) = gnf ha (gnf ha (U ++ V) ++ Z) := by
  have hUV := Wd_append hU hV
  have hVZ := Wd_append hV hZ
  refine (gnf_geq ha (Wd_append hU (gnf_Wd ha hVZ)) (Wd_append (gnf_Wd ha hUV) hZ)).2 ?_
  refine ((geq.refl U).append (geq_gnf ha hVZ)).trans ?_
  rw [← List.append_assoc]
  exact ((geq_gnf ha hUV).append (geq.refl Z)).symm
end

end Go.PR.S

end
