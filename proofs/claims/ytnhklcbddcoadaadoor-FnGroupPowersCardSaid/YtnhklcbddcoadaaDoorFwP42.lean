/- GroupRoot: both functions, and the law. -/
import Derived.Test.YtnhklcbddcoadaaDoorFwP41
import Derived.Test.YtnhklcbddcoadaaDoorFwG32
set_option linter.unusedVariables false
set_option linter.unusedSimpArgs false
set_option linter.unusedSectionVars false
set_option maxRecDepth 20000
namespace Go.PR.S
open Go Go.PR Go.Proofs Gp
abbrev rootR (xs : List Int) (k r : Int) : Ret := ⟨.tup [.rsl 600000 0 xs.length, .int .i64 k, .int .i64 r], [], [⟨true, .ints .i64 xs⟩]⟩
def rootG {N : Nat} {d : List Int} (h : Al N d) (c f : List Int) : List Int := gnf h (f ++ rootW (grp h).toDep (2 * N) c ++ (f.map opp).reverse)
theorem Wd_opps {N : Nat} {f : List Int} (hf : Wd (2 * N) f) : Wd (2 * N) ((f.map opp).reverse) := fun x hx => by
  obtain ⟨y, hy, rfl⟩ := List.mem_map.1 (List.mem_reverse.1 hx)
  exact Wd_opp hf hy
theorem ztv (n : Int) (d w : List Int) (hd : d.length ≤ B40) (hw : w.length ≤ B40) :
    ∃ xs k r, xs.length ≤ B40 ∧ Runs X F.z5e [alD n d, lD w] [] (rootR xs k r) ∧ Runs X F.z2t [alD n d, lD w] [] (rootR xs k r) ∧
      (r = 0 → ∃ (N : Nat) (ha : Al N d) (c f : List Int), n = (N : Int) ∧ Wd (2 * N) c ∧ Wd (2 * N) f ∧ Wd (2 * N) (w.map code) ∧ c ≠ [] ∧ gnf ha c = c ∧ gnf ha f = f ∧ (∀ s : Nat, s < 2 * N → ends (grp ha).toDep c s = false) ∧
        (gnf ha (w.map code)).length = f.length + c.length + f.length ∧ geq (grp ha) (f ++ c ++ back (grp ha) f) (w.map code) ∧ w.length ≤ 24 ∧
        Runs X F.z2l [lD (dblL N d), lD (w.map code)] [] ⟨.tup [.rsl 600000 0 c.length, .rsl 600001 0 f.length], [], [⟨true, .ints .i64 c⟩, ⟨true, .ints .i64 f⟩]⟩ ∧
        xs = (rootG ha c f).map sign ∧ k = (rootK (grp ha).toDep (2 * N) c : Nat)) := by
  have c1 := zuc n d w w hd hw hw
  rw [zup] at c1
  have c2 : Runs X F.zk [alD n d, .imm2 .i64 [w]] [] (intR (sgCode n d [w])) := z44 n d [w] hd (by simp [B40]) (by simp [hw])
  by_cases h0 : sgCode n d [w] = 0
  · obtain ⟨N, ha, rfl, hN, hl, hb, hz, hW⟩ := sg_one h0
    have hc : (w.map code).length ≤ 24 := by simpa using hl
    obtain ⟨c, f, w1, w2, w3, w4, w5, w6, w7, w8, r1, r2⟩ := ziz ha hW hc
    have hgl := gnf_le ha hW
    have hcl : f.length + c.length + f.length ≤ 24 := by omega
    have k1 := zud ha
    have k2 := zj6 hb hz hw
    have k3 := zdr ha hW (by unfold B40; omega)
    have k6 := z58 ha
    have k7 := z45 hb hw
    by_cases he : c = []
    · have hz0 : ((c.length : Nat) : Int) = 0 := by rw [he]; rfl
      exact ⟨[], 0, 5, by simp [B40], zw9 c1 h0 k1 k2 k3 r1 hz0, zoc c2 h0 k6 k7 r2 hz0, fun h => by cases h⟩
    · have hne : ¬ ((c.length : Nat) : Int) = 0 := by have := List.length_pos_iff.2 he; omega
      obtain ⟨q1, q2⟩ := zja (tab_dbl ha) w1 (by omega)
      have hrW := zis (T := (grp ha).toDep) w1
      have hrl := zdk (T := (grp ha).toDep) w1
      have k8 := za3 hN w2 (by unfold B40; omega)
      have k9 := z56 f (by unfold B40; omega)
      have k10 := zj4 hN w2 (by unfold B40; omega)
      have hbl : ((f.map opp).reverse).length = f.length := by simp
      have hbW := Wd_opps w2
      have hall : Wd (2 * N) (f ++ rootW (grp ha).toDep (2 * N) c ++ (f.map opp).reverse) := zp (zp w2 hrW) hbW
      have hallL : (f ++ rootW (grp ha).toDep (2 * N) c ++ (f.map opp).reverse).length ≤ 24 := by
        rw [List.length_append, List.length_append, hbl]; omega
      have kc := za1 [f, rootW (grp ha).toDep (2 * N) c, (f.map opp).reverse] (by simp [B40]) (by
        simp only [List.flatten_cons, List.flatten_nil, List.append_nil]
        rw [← List.append_assoc]; unfold B40; omega)
      have ef : [f, rootW (grp ha).toDep (2 * N) c, (f.map opp).reverse].flatten = f ++ rootW (grp ha).toDep (2 * N) c ++ (f.map opp).reverse := by simp
      rw [ef] at kc
      have kg := z31 ha hall (by unfold B40; omega)
      have kr := zdr ha hall (by unfold B40; omega)
      have hg2 := gnf_le ha hall
      have gW := gnf_Wd ha hall
      have ke := z54 hN gW (by unfold B40; omega)
      rw [if_pos (by omega)] at ke
      have ko := zj7 hN gW (by unfold B40; omega)
      refine ⟨(rootG ha c f).map sign, rootK (grp ha).toDep (2 * N) c, 0, by unfold rootG; rw [List.length_map]; unfold B40; omega, ?_, ?_, fun _ => ⟨N, ha, c, f, rfl, w1, w2, hW, he, w3, w4, w5, w6, w7, hl, r2, rfl, rfl⟩⟩
      · unfold rootG
        apply zwa
        all_goals first | exact c1 | exact h0 | exact k1 | exact k2 | exact k3 | exact r1 | exact hne | exact q2 | exact k9 | exact k10 | exact kr | exact ko | (simp only [List.length_append, hbl]; omega) | omega
      · unfold rootG
        apply zgv
        all_goals first | exact c2 | exact h0 | exact k6 | exact k7 | exact r2 | exact hne | exact q1 | exact k8 | exact kc | exact kg | exact ke | omega | rfl
  · exact ⟨[], 0, sgCode n d [w], by simp [B40], zw8 c1 h0, zgu c2 h0, fun h => absurd h h0⟩
end Go.PR.S
