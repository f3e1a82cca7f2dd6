/- The law of PossibleLetters: it comes to true. -/
import Derived.Test.YtmjbhacjgjihpaaDoorFwP66
import Derived.Test.YtmjbhacjgjihpaaDoorFwP9
import Derived.Test.YtmjbhacjgjihpaaDoorFwG65
set_option linter.unusedVariables false
set_option linter.unusedSimpArgs false
set_option linter.unusedSectionVars false
set_option maxRecDepth 20000
namespace Go.PR.S
open Go Go.PR Go.Proofs Gp
abbrev zS : List FK := [.int .i64, .ints .i64, .ints .i64]
def nj (j : Rcd) : Rcd := ⟨[jl j], [jf j, jt j], []⟩
theorem rcd_lt {js : List Rcd} {i : Nat} (h : i < js.length) : rcdAt js i = js[i] := by unfold rcdAt; simp [List.getD_eq_getElem?_getD, h]
theorem rcd_map {js : List Rcd} {i : Nat} (h : i < js.length) : rcdAt (js.map nj) i = nj (rcdAt js i) := by
  rw [rcd_lt (by rw [List.length_map]; exact h), rcd_lt h, List.getElem_map]
section
variable {ps ss st : List Int} {js : List Rcd} {fs : List (List Int)}
theorem Lim.norm (h : Lim ps ss st js fs) : Lim ps ss st (js.map nj) fs where
  hps := h.hps
  hss := h.hss
  hst := h.hst
  hjs := by rw [List.length_map]; exact h.hjs
  hfs := h.hfs
  hjf := fun i hi => by rw [List.length_map] at hi; rw [rcd_map hi]; exact h.hjf i hi
  hjt := fun i hi => by rw [List.length_map] at hi; rw [rcd_map hi]; exact h.hjt i hi
  hff := h.hff
theorem zm2 (hL : Lim ps ss st js fs) : Runs X F.z2o [.immR zS js] [] ⟨.rcs 600000 3 (js.map nj).length, [], [⟨true, .recs zS (js.map nj)⟩]⟩ := by
  have hjl := hL.hjs
  unfold B40 at hjl
  have hlen : (js.map nj).length = js.length := List.length_map ..
  have lp : WpL X F.z2o 0 (lb Tryd.f32 0) (z3n js 0 ((js.map nj).take 0 ++ List.replicate ((js.map nj).length - 0) ⟨[0], [[], []], []⟩)).st (fun o => o = (z65 js (js.map nj)).out) := by
    refine loop_to (N := js.length) (st := fun i => z3n js i ((js.map nj).take i ++ List.replicate ((js.map nj).length - i) ⟨[0], [[], []], []⟩)) (fun i hi Q hqq => ?_) (fun Q hqq => ?_)
    · have hi' : i < (js.map nj).length := by omega
      have c := zjo (a := jl (rcdAt js i)) (z3v _ (hL.hjf i hi)) (z3v _ (hL.hjt i hi))
      rw [← z92 hi' (x := nj (rcdAt js i)) (by rw [List.getElem_map, rcd_lt hi])] at hqq
      exact zjl (by omega) (by simp; omega) (by omega) c hqq
    · rw [show js.length = (js.map nj).length by omega, List.take_length, Nat.sub_self, List.replicate_zero, List.append_nil]
      exact zjm (by omega) (by omega) (by omega) hqq
  rw [List.take_zero, List.nil_append, Nat.sub_zero, hlen] at lp
  have := zjk (by omega) lp
  rw [hlen]
  exact this
theorem zm0 (hL : Lim ps ss st js fs) : Runs X F.z4f [zD ps ss st js fs] [] ⟨.agg [.rsl 600000 0 ps.length, .rsl 600001 0 ss.length, .rsl 600002 0 st.length, .rcs 600003 3 (js.map nj).length, .rsl 600004 0 fs.length], [],
    [⟨true, .ints .i64 ps⟩, ⟨true, .ints .i64 ss⟩, ⟨true, .ints .i64 st⟩, ⟨true, .recs zS (js.map nj)⟩, ⟨true, .ints2 .i64 fs⟩]⟩ :=
  zja (z3v ps hL.hps) (z3v ss hL.hss) (z3v st hL.hst) (zm2 hL) (zm1 fs hL.hfs (fun xs hx => by
    obtain ⟨i, hi, rfl⟩ := List.getElem_of_mem hx
    have := hL.hff i hi
    rwa [getR_lt hi] at this))
theorem zll (hL : Lim ps ss st js fs) : Runs X F.z2z [.immR zS js, .immR zS js] [] (boolR true) := by
  have hjl := hL.hjs
  unfold B40 at hjl
  refine zil rfl (loop_to (N := js.length) (st := fun i => z4c js js i) (fun i hi Q hqq => ?_) (fun Q hqq => ?_))
  · exact zim rfl (by omega) (zip rfl (z3u _ (hL.hjf i hi)) rfl (z3u _ (hL.hjt i hi)) rfl) rfl (by omega) hqq
  · exact zin rfl (by omega) hqq
theorem zlj (hL : Lim ps ss st js fs) : Runs X F.z5w [zD ps ss st js fs, zD ps ss st js fs] [] (boolR true) :=
  zib (z3u ps hL.hps) rfl (z3u ss hL.hss) rfl (z3u st hL.hst) rfl (zll hL) rfl (zlk fs hL.hfs (fun xs hx => by
    obtain ⟨i, hi, rfl⟩ := List.getElem_of_mem hx
    have := hL.hff i hi
    rwa [getR_lt hi] at this)) rfl
theorem szS {xs : List Int} {l : Int} (h0 : 0 ≤ l) (h1 : l ≤ B40) (hx : xs.length ≤ L63) : ∃ r, Runs X F.z9 [lD xs, iD l] [] (intR r) ∧ (r < 0 ∨ (0 ≤ r ∧ r ≤ l ∧ xs.length ≤ B40)) := by
  have c := zcw xs l h0 h1 hx
  by_cases h : (xs.length : Int) ≤ l
  · rw [if_pos h] at c; exact ⟨_, c, .inr ⟨by omega, by omega, by omega⟩⟩
  · rw [if_neg h] at c; exact ⟨_, c, .inl (by omega)⟩
theorem zlz (l : Int) (h0 : 0 ≤ l) (h1 : l ≤ B40) (hx : js.length ≤ L63) (hjf : ∀ i, i < js.length → (jf (rcdAt js i)).length ≤ L63) (hjt : ∀ i, i < js.length → (jt (rcdAt js i)).length ≤ L63) :
    ∃ r, Runs X F.z19 [.immR zS js, iD l] [] (intR r) ∧ (r < 0 ∨ (0 ≤ r ∧ r ≤ l ∧ js.length ≤ B40 ∧ (∀ i, i < js.length → (jf (rcdAt js i)).length ≤ B40) ∧ ∀ i, i < js.length → (jt (rcdAt js i)).length ≤ B40)) := by
  have h1' := h1
  have hx' := hx
  unfold B40 at h1'; unfold L63 at hx'
  by_cases h : l - (js.length : Int) < 0
  · exact ⟨-1, zj2 (by omega) (by omega) h, .inl (by omega)⟩
  · have key : ∀ (k i : Nat) (t : Int), i + k = js.length → 0 ≤ t → t ≤ B40 → (∃ t', WpL X F.z19 0 (lb Tryd.f27 0) (z2m js t i).st (fun o => o = (z61 t').out)) ∨
        (∃ t', 0 ≤ t' ∧ t' ≤ t ∧ (∀ q, i ≤ q → q < js.length → (jf (rcdAt js q)).length ≤ B40 ∧ (jt (rcdAt js q)).length ≤ B40) ∧ WpL X F.z19 0 (lb Tryd.f27 0) (z2m js t i).st (fun o => o = (z62 t').out)) := by
      intro k
      induction k with
      | zero => intro i t hi ht0 ht1; exact .inr ⟨t, ht0, by omega, fun q h1 h2 => by omega, zj5 (by omega) rfl⟩
      | succ k ih =>
        intro i t hi ht0 ht1
        obtain ⟨r1, c1, hr1⟩ := szS ht0 ht1 (hjf i (by omega))
        rcases hr1 with hr1 | ⟨g1, g2, g3⟩
        · exact .inl ⟨_, zbp (by omega) (zj6 c1 hr1) (by omega) rfl⟩
        · obtain ⟨r2, c2, hr2⟩ := szS g1 (by omega) (hjt i (by omega))
          rcases hr2 with hr2 | ⟨q1, q2, q3⟩
          · exact .inl ⟨_, zbp (by omega) (zj7 c1 (by omega) c2 hr2) (by omega) rfl⟩
          · have c3 := zj8 (a := jl (rcdAt js i)) c1 (by omega) c2 (by omega)
            rcases ih (i + 1) r2 (by omega) q1 (by omega) with ⟨t', w⟩ | ⟨t', w1, w2, w3, w⟩
            · exact .inl ⟨t', zbq (by omega) c3 (by omega) (by omega) w⟩
            · refine .inr ⟨t', w1, by omega, fun q h1 h2 => ?_, zbq (by omega) c3 (by omega) (by omega) w⟩
              by_cases e : q = i
              · rw [e]; exact ⟨g3, q3⟩
              · exact w3 q (by omega) h2
    rcases key js.length 0 (l - js.length) (by omega) (by omega) (by omega) with ⟨t', w⟩ | ⟨t', w1, w2, w3, w⟩
    · exact ⟨-1, zj3 (by omega) (by omega) h w, .inl (by omega)⟩
    · exact ⟨t', zj4 (by omega) (by omega) h w, .inr ⟨w1, by omega, by unfold B40; omega, fun i hi => (w3 i (by omega) hi).1, fun i hi => (w3 i (by omega) hi).2⟩⟩
theorem zlx (h1 : ps.length ≤ L63) (h2 : ss.length ≤ L63) (h3 : st.length ≤ L63) (h4 : js.length ≤ L63) (h5 : ∀ i, i < js.length → (jf (rcdAt js i)).length ≤ L63) (h6 : ∀ i, i < js.length → (jt (rcdAt js i)).length ≤ L63) (h7 : fs.length ≤ L63) (h8 : ∀ xs ∈ fs, xs.length ≤ L63) :
    ∃ r, Runs X F.z27 [zD ps ss st js fs, iD 1048576] [] (intR r) ∧ (r < 0 ∨ (¬ r < 0 ∧ Lim ps ss st js fs)) := by
  obtain ⟨r1, c1, hr1⟩ := szS (l := 1048576) (by omega) (by unfold B40; omega) h1
  rcases hr1 with hr1 | ⟨a1, a2, a3⟩
  · exact ⟨-1, ziq c1 hr1, .inl (by omega)⟩
  have hb : r1 ≤ (B40 : Int) := by unfold B40; omega
  obtain ⟨r2, c2, hr2⟩ := szS a1 hb h2
  rcases hr2 with hr2 | ⟨b1, b2, b3⟩
  · exact ⟨-1, zir c1 (by omega) c2 hr2, .inl (by omega)⟩
  obtain ⟨r3, c3, hr3⟩ := szS b1 (by omega) h3
  rcases hr3 with hr3 | ⟨d1, d2, d3⟩
  · exact ⟨-1, zis c1 (by omega) c2 (by omega) c3 hr3, .inl (by omega)⟩
  obtain ⟨r4, c4, hr4⟩ := zlz (js := js) r3 d1 (by omega) h4 h5 h6
  rcases hr4 with hr4 | ⟨e1, e2, e3, e4, e5⟩
  · exact ⟨-1, zit c1 (by omega) c2 (by omega) c3 (by omega) c4 hr4, .inl (by omega)⟩
  have c5 := zly fs r4 e1 (by omega) h7 h8
  by_cases hf : (fs.length : Int) ≤ r4
  · rw [if_pos hf] at c5
    have hle := z88 fs (r4 - fs.length) (by omega)
    by_cases hneg : leftR (r4 - fs.length) fs < 0
    · exact ⟨-1, zbm c1 (by omega) c2 (by omega) c3 (by omega) c4 (by omega) c5 hneg, .inl (by omega)⟩
    · refine ⟨_, ziu c1 (by omega) c2 (by omega) c3 (by omega) c4 (by omega) c5 hneg, .inr ⟨hneg, a3, b3, d3, e3, by omega, e4, e5, fun i hi => ?_⟩⟩
      have := zbr fs (r4 - fs.length) (by omega) (by omega) _ (List.getElem_mem hi)
      rw [getR_lt hi]
      omega
  · rw [if_neg hf] at c5
    exact ⟨-1, zbm c1 (by omega) c2 (by omega) c3 (by omega) c4 (by omega) c5 (by omega), .inl (by omega)⟩
theorem zi6 (ps ss st : List Int) (js : List Rcd) (fs : List (List Int)) (g : List Int) (h1 : ps.length ≤ L63) (h2 : ss.length ≤ L63) (h3 : st.length ≤ L63) (h4 : js.length ≤ L63) (h5 : ∀ i, i < js.length → (jf (rcdAt js i)).length ≤ L63) (h6 : ∀ i, i < js.length → (jt (rcdAt js i)).length ≤ L63) (h7 : fs.length ≤ L63) (h8 : ∀ xs ∈ fs, xs.length ≤ L63) :
    Runs X F.z4b [zD ps ss st js fs, lD g] [] (boolR true) := by
  by_cases hg : (g.length : Int) > 1048576
  · exact zi7 hg
  · obtain ⟨r, c, hr⟩ := zlx h1 h2 h3 h4 h5 h6 h7 h8
    rcases hr with hr | ⟨hr, hL⟩
    · exact zi8 hg c hr
    · have hg' : g.length ≤ B40 := by unfold B40; omega
      have ct := zm0 hL
      have cg := z3v g hg'
      have hN := hL.norm
      obtain ⟨a, b, cs, ci⟩ := zle hN g hg'
      exact zi9 hg c hr ct cg cs ct cg ci rfl rfl ct (zlj hN) rfl cg (z3u g hg') rfl
end
theorem run_FnExactPossibleLetters (ps ss st : List Int) (js : List Rcd) (fs : List (List Int)) (g : List Int) (h1 : ps.length ≤ L63) (h2 : ss.length ≤ L63) (h3 : st.length ≤ L63) (h4 : js.length ≤ L63) (h5 : ∀ p ∈ js, (p.ls.headD []).length ≤ L63 ∧ (p.ls.tail.headD []).length ≤ L63) (h7 : fs.length ≤ L63) (h8 : ∀ xs ∈ fs, xs.length ≤ L63) :
    Runs X F.z4b [zD ps ss st js fs, lD g] [] (boolR true) :=
  zi6 ps ss st js fs g h1 h2 h3 h4 (fun i hi => by rw [rcd_lt hi]; exact (h5 _ (List.getElem_mem hi)).1) (fun i hi => by rw [rcd_lt hi]; exact (h5 _ (List.getElem_mem hi)).2) h7 h8
end Go.PR.S
