/- The root of the root, the root of the inverse: what a second GroupRoot finds. -/
import Derived.Test.YtnhklcbddcoadaaDoorFwP42
import Derived.Test.YtnhklcbddcoadaaDoorGrI
set_option linter.unusedVariables false
set_option linter.unusedSimpArgs false
set_option linter.unusedSectionVars false
section
set_option maxRecDepth 20000
namespace Go.PR.S
open Go Go.PR Go.Proofs Gp
section
variable {N : Nat} {d : List Int}
structure CoF (ha : Al N d) (c f w : List Int) : Prop where
  cW : Wd (2 * N) c
  fW : Wd (2 * N) f
  wW : Wd (2 * N) w
  fg : gnf ha f = f
  noE : ∀ s : Nat, s < 2 * N → ends (grp ha).toDep c s = false
  len : (gnf ha w).length = f.length + c.length + f.length
  eq : geq (grp ha) (f ++ c ++ back (grp ha) f) w
theorem CoF.no (ha : Al N d) {c f w : List Int} (h : CoF ha c f w) : ∀ s, 0 ≤ s ∧ s < ((2 * N : Nat) : Int) → ¬ bothE (grp ha) c s := by
  intro s hs hb
  have := h.noE s.toNat (by omega)
  rw [Int.toNat_of_nonneg hs.1] at this
  unfold ends at this
  have h1 : isFirst (grp ha).toDep c s = true := hb.1
  have h2 : isFirst (grp ha).toDep c.reverse (opp s) = true := hb.2
  rw [h1, h2] at this
  cases this
theorem CoF.full (ha : Al N d) {c f w : List Int} (h : CoF ha c f w) : (fold (grp ha) (f ++ c ++ back (grp ha) f) []).length = (f ++ c ++ back (grp ha) f).length := by
  have hW : Wd (2 * N) (f ++ c ++ back (grp ha) f) := zp (zp h.fW h.cW) (Wd_back h.fW)
  have h1 := (gnf_geq ha hW h.wW).2 h.eq
  have h2 := gnf_len ha hW
  rw [h1, h.len] at h2
  rw [← h2, List.length_append, List.length_append, z4f]
theorem zns {G : Grp Int} {u v : List Int} (hu : (fold G u []).length = u.length) (hv : (fold G v []).length = v.length) (h : geq G u v) : teq G.toDep u v := by
  have e1 := z7g u [] (by simpa using hu)
  have e2 := z7g v [] (by simpa using hv)
  have h' : teq G.toDep (fold G u []) (fold G v []) := h
  rw [e1, e2, List.append_nil, List.append_nil] at h'
  have := h'.reverse
  rwa [List.reverse_reverse, List.reverse_reverse] at this
theorem CoF.unique (ha : Al N d) {c f c' f' w : List Int} (h : CoF ha c f w) (h' : CoF ha c' f' w) : f' = f ∧ teq (grp ha).toDep c' c := by
  have ht := zns h'.full h.full (h'.eq.trans h.eq.symm)
  obtain ⟨r1, r2⟩ := zgb f' ht (fun s hs => h'.no ha s (h.fW s hs)) (fun s hs => h.no ha s (h'.fW s hs))
  have e := (gnf_geq ha h'.fW h.fW).2 (z3z r1)
  rw [h'.fg, h.fg] at e
  exact ⟨e, r2⟩
theorem CoF.root (ha : Al N d) {c f w : List Int} (h : CoF ha c f w) (hne : c ≠ []) : CoF ha (rootW (grp ha).toDep (2 * N) c) f (rootG ha c f) := by
  obtain ⟨k1, k2, k3, k4, _⟩ := z6i (T := (grp ha).toDep) h.cW hne
  have hbW : Wd (2 * N) (back (grp ha) f) := Wd_back h.fW
  have hVW : Wd (2 * N) (f ++ rootW (grp ha).toDep (2 * N) c ++ back (grp ha) f) := zp (zp h.fW k3) hbW
  have hfull := zc9 (((teq.refl f).append k2).append (teq.refl (back (grp ha) f))) h.full
  have hred := zig k1 f (z8w.1 hfull)
  have hV := z8w.2 hred
  have ht : rootG ha c f = gnf ha (f ++ rootW (grp ha).toDep (2 * N) c ++ back (grp ha) f) := rfl
  refine ⟨k3, h.fW, by rw [ht]; exact gnf_Wd ha hVW, h.fg, fun s hs => ?_, ?_, by rw [ht]; exact (geq_gnf ha hVW).symm⟩
  · cases e : ends (grp ha).toDep (rootW (grp ha).toDep (2 * N) c) s with
    | false => rfl
    | true =>
      exfalso
      unfold ends at e
      rw [Bool.and_eq_true] at e
      have hb : bothE (grp ha) (rootW (grp ha).toDep (2 * N) c) s := ⟨e.1, e.2⟩
      exact h.no ha s (by omega) (zm2 k2.symm (zm1 k1 hb))
  · rw [ht, gnf_gnf ha hVW, gnf_len ha hVW, hV, List.length_append, List.length_append, z4f]
theorem CoF.again (ha : Al N d) {c f w c2 f2 : List Int} (h : CoF ha c f w) (hne : c ≠ []) (h2 : CoF ha c2 f2 (rootG ha c f)) :
    rootG ha c2 f2 = rootG ha c f ∧ rootK (grp ha).toDep (2 * N) c2 = 1 := by
  have hr := h.root ha hne
  obtain ⟨e1, e2⟩ := hr.unique ha h2
  obtain ⟨k1, k2⟩ := zdl h2.cW hr.cW e2
  obtain ⟨r1, r2⟩ := zto (T := (grp ha).toDep) h.cW hne
  refine ⟨?_, by rw [k1, r1]⟩
  unfold rootG
  rw [k2, r2, e1]
end
end Go.PR.S

end

section
set_option maxRecDepth 20000
namespace Go.PR.S
open Go Go.PR Go.Proofs Gp
section
variable {G : Grp Int}
theorem zie : ∀ {w : List Int}, red G w → red G (w.map G.inv)
  | [], _ => trivial
  | x :: w, h => by
    refine ⟨?_, zie h.2⟩
    rw [z7p]
    exact h.1
theorem ztf {w : List Int} (h : red G w) : red G (back G w) := z9v (zie h)
theorem zm0 {c : List Int} {s : Int} (h : bothE G (back G c) s) : bothE G c s := by
  obtain ⟨h1, h2⟩ := h
  unfold back at h1 h2
  rw [List.reverse_reverse, z7p] at h2
  refine ⟨h2, ?_⟩
  have e : s = G.inv (G.inv s) := (G.inv2 s).symm
  rw [← List.map_reverse, e, z7p] at h1
  exact h1
theorem zbf (f c : List Int) : back G (f ++ c ++ back G f) = f ++ back G c ++ back G f := by
  rw [z8l, z8l, zbe, List.append_assoc]
theorem zgf (f r : List Int) : ∀ k, geq G (reps (f ++ r ++ back G f) k) (f ++ reps r k ++ back G f)
  | 0 => by
    rw [z7z, z7z, List.append_nil]
    exact (zca f).symm
  | k + 1 => by
    rw [z1m, z1m]
    refine ((geq.refl (f ++ r ++ back G f)).append (zgf f r k)).trans ?_
    have e1 : f ++ r ++ back G f ++ (f ++ reps r k ++ back G f) = (f ++ r) ++ (back G f ++ f) ++ (reps r k ++ back G f) := by simp
    have e2 : f ++ (r ++ reps r k) ++ back G f = (f ++ r) ++ [] ++ (reps r k ++ back G f) := by simp
    rw [e1, e2]
    exact ((geq.refl _).append (zge f)).append (geq.refl _)
theorem zgg {u v : List Int} (h : geq G u v) : ∀ k, geq G (reps u k) (reps v k)
  | 0 => geq.refl _
  | k + 1 => by rw [z1m, z1m]; exact h.append (zgg h k)
end
section
variable {N : Nat} {d : List Int}
theorem CoF.back (ha : Al N d) {c f w : List Int} (h : CoF ha c f w) : CoF ha (Gp.back (grp ha) c) f (Gp.back (grp ha) w) := by
  have hcW : Wd (2 * N) (Gp.back (grp ha) c) := Wd_back h.cW
  have hbW : Wd (2 * N) (Gp.back (grp ha) w) := Wd_back h.wW
  have heq : geq (grp ha) (f ++ Gp.back (grp ha) c ++ Gp.back (grp ha) f) (Gp.back (grp ha) w) := by
    have := h.eq.back
    rwa [zbf] at this
  have hVW : Wd (2 * N) (f ++ Gp.back (grp ha) c ++ Gp.back (grp ha) f) := zp (zp h.fW hcW) (Wd_back h.fW)
  have hred := ztf (z8w.1 h.full)
  rw [zbf] at hred
  have hfull := z8w.2 hred
  refine ⟨hcW, h.fW, hbW, h.fg, fun s hs => ?_, ?_, heq⟩
  · cases e : ends (grp ha).toDep (Gp.back (grp ha) c) s with
    | false => rfl
    | true =>
      exfalso
      unfold ends at e
      rw [Bool.and_eq_true] at e
      exact h.no ha s (by omega) (zm0 ⟨e.1, e.2⟩)
  · rw [← (gnf_geq ha hVW hbW).2 heq, gnf_len ha hVW, hfull, List.length_append, List.length_append]
    rw [z4f (G := grp ha) f]
theorem CoF.power (ha : Al N d) {c f w : List Int} (h : CoF ha c f w) (hne : c ≠ []) : geq (grp ha) (reps (rootG ha c f) (rootK (grp ha).toDep (2 * N) c)) w := by
  obtain ⟨k1, k2, k3, k4, _⟩ := z6i (T := (grp ha).toDep) h.cW hne
  have hVW : Wd (2 * N) (f ++ rootW (grp ha).toDep (2 * N) c ++ Gp.back (grp ha) f) := zp (zp h.fW k3) (Wd_back h.fW)
  have ht : geq (grp ha) (rootG ha c f) (f ++ rootW (grp ha).toDep (2 * N) c ++ Gp.back (grp ha) f) := geq_gnf ha hVW
  refine (zgg ht _).trans ((zgf f _ _).trans (geq.trans ?_ h.eq))
  exact ((geq.refl f).append (z3z k2.symm)).append (geq.refl _)
theorem CoF.turned (ha : Al N d) {c f w c3 f3 : List Int} (h : CoF ha c f w) (hne : c ≠ []) (h3 : CoF ha c3 f3 (Gp.back (grp ha) w)) :
    rootG ha c3 f3 = gnf ha (Gp.back (grp ha) (rootG ha c f)) ∧ rootK (grp ha).toDep (2 * N) c3 = rootK (grp ha).toDep (2 * N) c := by
  have hb := h.back ha
  obtain ⟨e1, e2⟩ := hb.unique ha h3
  obtain ⟨k1, k2⟩ := zdl h3.cW hb.cW e2
  obtain ⟨r1, r2⟩ := ztm (G := grp ha) h.cW hb.cW (fun hx => Wd_back hx) hne
  obtain ⟨_, _, q3, _, _⟩ := z6i (T := (grp ha).toDep) h.cW hne
  refine ⟨?_, by rw [k1, r1]⟩
  have hVW : Wd (2 * N) (f ++ rootW (grp ha).toDep (2 * N) c ++ Gp.back (grp ha) f) := zp (zp h.fW q3) (Wd_back h.fW)
  have hbr : Wd (2 * N) (Gp.back (grp ha) (rootW (grp ha).toDep (2 * N) c)) := Wd_back q3
  have hs := z1u (T := (grp ha).toDep) hbr
  have hnW : Wd (2 * N) (nform (grp ha).toDep (2 * N) (Gp.back (grp ha) (rootW (grp ha).toDep (2 * N) c))) := fun x hx => hbr x ((hs.mem x).1 hx)
  have e3 : rootG ha c3 f3 = gnf ha (f ++ nform (grp ha).toDep (2 * N) (Gp.back (grp ha) (rootW (grp ha).toDep (2 * N) c)) ++ Gp.back (grp ha) f) := by
    show gnf ha (f3 ++ rootW (grp ha).toDep (2 * N) c3 ++ Gp.back (grp ha) f3) = _
    rw [k2, r2, e1]
  rw [e3]
  have e4 : rootG ha c f = gnf ha (f ++ rootW (grp ha).toDep (2 * N) c ++ Gp.back (grp ha) f) := rfl
  have hgW := gnf_Wd ha hVW
  rw [e4]
  refine (gnf_geq ha (zp (zp h.fW hnW) (Wd_back h.fW)) (Wd_back hgW)).2 ?_
  refine geq.trans (((geq.refl f).append (z3z hs)).append (geq.refl _)) ?_
  have := (geq_gnf ha hVW).back
  rw [zbf] at this
  exact this.symm
end
end Go.PR.S

end
