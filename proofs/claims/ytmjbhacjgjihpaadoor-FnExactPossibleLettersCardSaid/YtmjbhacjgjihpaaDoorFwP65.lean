/- Asynchronous automata: the order of lists and of joints; both sides accept the same automata. -/
import Derived.Test.YtmjbhacjgjihpaaDoorFwP64
set_option linter.unusedVariables false
set_option linter.unusedSimpArgs false
set_option linter.unusedSectionVars false
set_option maxRecDepth 20000
namespace Go.PR.S
open Go Go.PR Go.Proofs Gp
def cmpL : List Int → List Int → Int
  | [], [] => 0
  | [], _ :: _ => -1
  | _ :: _, [] => 1
  | a :: u, b :: v => if a < b then -1 else if b < a then 1 else cmpL u v
theorem zaa : ∀ u, cmpL u u = 0
  | [] => rfl
  | a :: u => by simp only [cmpL]; rw [if_neg (by omega), if_neg (by omega)]; exact zaa u
theorem cmpL_eq : ∀ {u v}, cmpL u v = 0 → u = v
  | [], [], _ => rfl
  | [], _ :: _, h => by simp [cmpL] at h
  | _ :: _, [], h => by simp [cmpL] at h
  | a :: u, b :: v, h => by
    simp only [cmpL] at h
    split at h
    · omega
    · split at h
      · omega
      · rw [cmpL_eq h, show a = b by omega]
theorem za9 : ∀ {u v}, cmpL u v < 0 → ¬ cmpL v u < 0
  | [], [], h => by simp [cmpL] at h
  | [], _ :: _, _ => by simp [cmpL]
  | _ :: _, [], h => by simp [cmpL] at h
  | a :: u, b :: v, h => by
    simp only [cmpL] at h ⊢
    split at h
    · rw [if_neg (by omega), if_pos (by omega)]; omega
    · split at h
      · omega
      · rw [if_neg (by omega), if_neg (by omega)]; exact za9 h
theorem zab : ∀ {u v w}, cmpL u v < 0 → cmpL v w < 0 → cmpL u w < 0
  | [], [], _, h, _ => by simp [cmpL] at h
  | [], _ :: _, [], _, h => by simp [cmpL] at h
  | [], _ :: _, _ :: _, _, _ => by simp [cmpL]
  | _ :: _, [], _, h, _ => by simp [cmpL] at h
  | _ :: _, _ :: _, [], _, h => by simp [cmpL] at h
  | a :: u, b :: v, c :: w, h, h' => by
    simp only [cmpL] at h h' ⊢
    split at h
    · split at h'
      · rw [if_pos (by omega)]; omega
      · split at h'
        · omega
        · rw [if_pos (by omega)]; omega
    · split at h
      · omega
      · split at h'
        · rw [if_pos (by omega)]; omega
        · split at h'
          · omega
          · rw [if_neg (by omega), if_neg (by omega)]; exact zab h h'
theorem z2x {u : List Int} {i : Nat} (h : i < u.length) : u.drop i = u.getD i 0 :: u.drop (i + 1) := by
  rw [getD_lt h]; exact List.drop_eq_getElem_cons h
theorem zli (a b : Int) : Runs X F.z3d [iD a, iD b] [] (intR (if a < b then -1 else if b < a then 1 else 0)) := by
  by_cases h : a < b
  · rw [if_pos h]; exact zf9 h
  · rw [if_neg h]
    by_cases h2 : b < a
    · rw [if_pos h2]; exact zfa h h2
    · rw [if_neg h2]; exact zfb h h2
theorem z57 (u v : List Int) (hu : u.length ≤ B40) : Runs X F.zt [lD u, lD v] [] (intR (cmpL u v)) := by
  unfold B40 at hu
  have key : ∀ (k i : Nat), i + k = u.length → i ≤ v.length → (∃ t, t = cmpL (u.drop i) (v.drop i) ∧ WpL X F.zt 0 (lb Tryd.f71 0) (z21 u v i).st (fun o => o = (z4n u v t).out)) ∨
      (u.length ≤ v.length ∧ cmpL (u.drop i) (v.drop i) = (if u.length < v.length then -1 else 0) ∧ WpL X F.zt 0 (lb Tryd.f71 0) (z21 u v i).st (fun o => o = (z5b u v).out)) := by
    intro k
    induction k with
    | zero =>
      intro i hi hv
      refine .inr ⟨by omega, ?_, zmk (by omega) rfl⟩
      rw [List.drop_of_length_le (l := u) (by omega)]
      by_cases e : u.length < v.length
      · rw [if_pos e, z2x (u := v) (i := i) (by omega)]; rfl
      · rw [if_neg e, List.drop_of_length_le (l := v) (by omega)]; rfl
    | succ k ih =>
      intro i hi hv
      by_cases hiv : i < v.length
      · have c := zli (u.getD i 0) (v.getD i 0)
        have e : cmpL (u.drop i) (v.drop i) = (if u.getD i 0 < v.getD i 0 then -1 else if v.getD i 0 < u.getD i 0 then 1 else cmpL (u.drop (i + 1)) (v.drop (i + 1))) := by
          rw [z2x (u := u) (i := i) (by omega), z2x (u := v) hiv]; rfl
        rw [e]
        by_cases h1 : u.getD i 0 < v.getD i 0
        · rw [if_pos h1] at c ⊢
          exact .inl ⟨-1, rfl, zd9 (by omega) (by omega) c (by omega) rfl⟩
        · rw [if_neg h1] at c ⊢
          by_cases h2 : v.getD i 0 < u.getD i 0
          · rw [if_pos h2] at c ⊢
            exact .inl ⟨1, rfl, zd9 (by omega) (by omega) c (by omega) rfl⟩
          · rw [if_neg h2] at c ⊢
            rcases ih (i + 1) (by omega) (by omega) with ⟨t, q1, q2⟩ | ⟨q0, q1, q2⟩
            · exact .inl ⟨t, q1, zda (by omega) (by omega) c rfl (by omega) q2⟩
            · exact .inr ⟨q0, q1, zda (by omega) (by omega) c rfl (by omega) q2⟩
      · refine .inl ⟨1, ?_, zmj (by omega) (by omega) rfl⟩
        rw [z2x (u := u) (i := i) (by omega), List.drop_of_length_le (l := v) (by omega)]; rfl
  rcases key u.length 0 (by omega) (by omega) with ⟨t, q1, q2⟩ | ⟨q0, q1, q2⟩
  · rw [List.drop_zero, List.drop_zero] at q1
    rw [← q1]; exact zmg q2
  · rw [List.drop_zero, List.drop_zero] at q1
    rw [q1]
    by_cases e : u.length < v.length
    · rw [if_pos e]; exact zmh q2 (by omega)
    · rw [if_neg e]; exact zmi q2 (by omega)
theorem z6g (u v : List Int) (hu : u.length ≤ B40) : Runs X F.z15 [lD u, lD v] [] (boolR (decide (cmpL u v < 0))) := by
  unfold B40 at hu
  have key : ∀ (k i : Nat), i + k = u.length → i ≤ v.length → (∃ b, b = decide (cmpL (u.drop i) (v.drop i) < 0) ∧ WpL X F.z15 0 (lb Tryd.f62 0) (z2d u v i).st (fun o => o = (z6m u v b).out)) ∨
      (decide (cmpL (u.drop i) (v.drop i) < 0) = decide (u.length < v.length) ∧ WpL X F.z15 0 (lb Tryd.f62 0) (z2d u v i).st (fun o => o = (z4r u v).out)) := by
    intro k
    induction k with
    | zero =>
      intro i hi hv
      refine .inr ⟨?_, znh (by omega) rfl⟩
      rw [List.drop_of_length_le (l := u) (by omega)]
      by_cases e : u.length < v.length
      · rw [decide_eq_true e, z2x (u := v) (i := i) (by omega)]; rfl
      · rw [decide_eq_false e, List.drop_of_length_le (l := v) (by omega)]; rfl
    | succ k ih =>
      intro i hi hv
      by_cases hiv : i < v.length
      · have e : cmpL (u.drop i) (v.drop i) = (if u.getD i 0 < v.getD i 0 then -1 else if v.getD i 0 < u.getD i 0 then 1 else cmpL (u.drop (i + 1)) (v.drop (i + 1))) := by
          rw [z2x (u := u) (i := i) (by omega), z2x (u := v) hiv]; rfl
        rw [e]
        by_cases h1 : u.getD i 0 = v.getD i 0
        · rw [if_neg (by omega), if_neg (by omega)]
          rcases ih (i + 1) (by omega) (by omega) with ⟨t, q1, q2⟩ | ⟨q1, q2⟩
          · exact .inl ⟨t, q1, zdi (by omega) (by omega) h1 (by omega) q2⟩
          · exact .inr ⟨q1, zdi (by omega) (by omega) h1 (by omega) q2⟩
        · refine .inl ⟨decide (u.getD i 0 < v.getD i 0), ?_, znf (by omega) (by omega) h1 rfl⟩
          by_cases h2 : u.getD i 0 < v.getD i 0
          · rw [if_pos h2, decide_eq_true h2]; rfl
          · rw [if_neg h2, decide_eq_false h2, if_pos (by omega)]; rfl
      · refine .inr ⟨?_, zng (by omega) (by omega) rfl⟩
        rw [z2x (u := u) (i := i) (by omega), List.drop_of_length_le (l := v) (by omega), decide_eq_false (p := u.length < v.length) (by omega)]; rfl
  rcases key u.length 0 (by omega) (by omega) with ⟨t, q1, q2⟩ | ⟨q1, q2⟩
  · rw [List.drop_zero, List.drop_zero] at q1
    rw [← q1]; exact znd q2
  · rw [List.drop_zero, List.drop_zero] at q1
    rw [q1]
    have := zne q2
    rw [show decide ((u.length : Int) < (v.length : Int)) = decide (u.length < v.length) by simp only [decide_eq_decide]; omega] at this
    exact this
def cjP (a : Int) (u : List Int) (b : Int) (v : List Int) : Int := if a = b then cmpL u v else a - b
theorem cjP_lt {a b : Int} {u v : List Int} : cjP a u b v < 0 ↔ a < b ∨ a = b ∧ cmpL u v < 0 := by
  unfold cjP
  split
  · rename_i h; subst h; constructor
    · exact fun h => .inr ⟨rfl, h⟩
    · rintro (h | h)
      · omega
      · exact h.2
  · constructor
    · intro h; left; omega
    · rintro (h | h) <;> omega
theorem zf6 {a b c : Int} {u v w : List Int} (h1 : cjP a u b v < 0) (h2 : cjP b v c w < 0) : cjP a u c w < 0 := by
  rw [cjP_lt] at *
  rcases h1 with h1 | ⟨rfl, h1⟩
  · rcases h2 with h2 | ⟨rfl, h2⟩
    · left; omega
    · left; omega
  · rcases h2 with h2 | ⟨rfl, h2⟩
    · left; omega
    · exact .inr ⟨rfl, zab h1 h2⟩
theorem zf5 {a b : Int} {u v : List Int} (h1 : cjP a u b v < 0) : ¬ cjP b v a u < 0 := by
  rw [cjP_lt] at *
  rcases h1 with h1 | ⟨rfl, h1⟩
  · rintro (h2 | h2) <;> omega
  · rintro (h2 | h2)
    · omega
    · exact za9 h1 h2.2
theorem z7d {a b : Int} {u v : List Int} : cjP a u b v = 0 ↔ a = b ∧ u = v := by
  unfold cjP
  split
  · rename_i h
    exact ⟨fun e => ⟨h, cmpL_eq e⟩, fun e => by rw [e.2]; exact zaa v⟩
  · rename_i h
    exact ⟨fun e => by omega, fun e => absurd e.1 h⟩
def cj (j k : Rcd) : Int := cjP (jl j) (jf j) (jl k) (jf k)
structure Lim (ps ss st : List Int) (js : List Rcd) (fs : List (List Int)) : Prop where
  hps : ps.length ≤ B40
  hss : ss.length ≤ B40
  hst : st.length ≤ B40
  hjs : js.length ≤ B40
  hfs : fs.length ≤ B40
  hjf : ∀ i, i < js.length → (jf (rcdAt js i)).length ≤ B40
  hjt : ∀ i, i < js.length → (jt (rcdAt js i)).length ≤ B40
  hff : ∀ i, i < fs.length → (fs.getD i []).length ≤ B40
def jOK (ps ss : List Int) (j : Rcd) : Bool := decide (0 ≤ jl j ∧ jl j ≤ (ps.length : Int) - 1) && (gl (part ss (ps.getD (jl j).toNat 0).toNat) (jf j) && gl (part ss (ps.getD (jl j).toNat 0).toNat) (jt j))
def jAt (ps ss : List Int) (js : List Rcd) (i : Nat) : Bool := jOK ps ss (rcdAt js i) && (decide (i = 0) || decide (cj (rcdAt js (i - 1)) (rcdAt js i) < 0))
def gj (ps ss : List Int) (js : List Rcd) : Bool := (List.range js.length).all (jAt ps ss js) && decide (js.length ≤ 64)
section
variable {ps ss st : List Int} {js : List Rcd} {fs : List (List Int)}
theorem zlm (hL : Lim ps ss st js fs) (hp : pl ss.length ps = true) (hs : Sz ss) : Runs X F.zj [zD ps ss st js fs] [] (boolR (gj ps ss js)) := by
  obtain ⟨⟨n1, n4⟩, hp8, hpm⟩ := pl_spec hp
  have hjs := hL.hjs
  unfold B40 at hjs
  have cl := z8x ps
  have body : WpL X F.zj 0 (lb Tryd.f70 0) (z1b ps ss st js fs 0).st (fun o => o = (if (List.range js.length).all (jAt ps ss js) then z5m ps ss st js fs else z25 ps ss st js fs).out) := by
    have facts : ∀ i, i < js.length → 0 ≤ jl (rcdAt js i) ∧ jl (rcdAt js i) ≤ (ps.length : Int) - 1 → ∃ m : Nat, ps.getD (jl (rcdAt js i)).toNat 0 = m ∧ m < 2 ^ ss.length ∧
        Runs X F.zz [lD ss, iD (ps.getD (jl (rcdAt js i)).toNat 0)] [] (rowR (part ss m)) ∧ Runs X F.z7 [lD (part ss m), lD (jf (rcdAt js i))] [] (boolR (gl (part ss m) (jf (rcdAt js i)))) ∧ Runs X F.z7 [lD (part ss m), lD (jt (rcdAt js i))] [] (boolR (gl (part ss m) (jt (rcdAt js i)))) := by
      intro i hi hr
      obtain ⟨m, e, _, hm⟩ := hpm (jl (rcdAt js i)).toNat (by omega)
      have hsz : Sz (part ss m) := fun q hq => by
        have hq' : q < (bitsN m).length := by unfold part at hq; rwa [List.length_map] at hq
        rw [zcb hq']
        have h63 : m < 2 ^ 63 := Nat.lt_of_lt_of_le hm (Nat.pow_le_pow_right (by omega) (by omega))
        exact hs _ (bit_in hm ((z8f h63).1 (List.getElem_mem hq')))
      refine ⟨m, e, hm, ?_, z4k hsz _ (hL.hjf i hi), z4k hsz _ (hL.hjt i hi)⟩
      rw [e]
      exact zct hm (by omega) rfl
    refine zbx (f := F.zj) (b := 0) (body := lb Tryd.f70 0) (N := js.length) (st := fun i => z1b ps ss st js fs i) (p := jAt ps ss js) (fun i hi hh hp Q hq => ?_) (fun i hi hh hp Q hq => ?_) (fun Q hq => ?_)
    · unfold jAt jOK at hp
      rw [Bool.and_eq_true, Bool.and_eq_true, Bool.and_eq_true, decide_eq_true_eq, Bool.or_eq_true, decide_eq_true_eq, decide_eq_true_eq] at hp
      obtain ⟨⟨hr, g1, g2⟩, ho⟩ := hp
      obtain ⟨m, e, hm, c1, c2, c3⟩ := facts i hi hr
      have c0 := z4j (jl (rcdAt js i)) 0 ((ps.length : Int) - 1)
      rw [decide_eq_true hr] at c0
      rw [e, Int.toNat_natCast] at g1 g2
      rw [g1] at c2
      rw [g2] at c3
      by_cases h0 : i = 0
      · exact zhd (by omega) cl (by omega) (by omega) c0 rfl hr.1 (by show jl _ < _; omega) c1 c2 rfl c3 rfl (by omega) hq
      · have ho := ho.resolve_left h0
        have hprev := hh (i - 1) (by omega)
        unfold jAt jOK at hprev
        rw [Bool.and_eq_true, Bool.and_eq_true, decide_eq_true_eq] at hprev
        have hr' := hprev.1.1
        have e1 : ((i : Int) - 1).toNat = i - 1 := by omega
        have c4 : Runs X F.zi [.agg [iD (jl (rcdAt js (i - 1))), lD (jf (rcdAt js (i - 1))), lD (jt (rcdAt js (i - 1)))], .agg [iD (jl (rcdAt js i)), lD (jf (rcdAt js i)), lD (jt (rcdAt js i))]] [] (intR (cj (rcdAt js (i - 1)) (rcdAt js i))) := by
          unfold cj cjP
          by_cases hq : jl (rcdAt js (i - 1)) = jl (rcdAt js i)
          · rw [if_pos hq]; exact zb6 hq (z57 _ _ (hL.hjf _ (by omega)))
          · rw [if_neg hq]; exact zb5 hq (by omega) (by omega)
        rw [← e1] at c4
        rw [← e1] at ho
        exact zhc (by omega) cl (by omega) (by omega) c0 rfl hr.1 (by show jl _ < _; omega) c1 c2 rfl c3 rfl (by omega) (by omega) c4 (by omega) (by omega) hq
    · have c0 := z4j (jl (rcdAt js i)) 0 ((ps.length : Int) - 1)
      by_cases hr : 0 ≤ jl (rcdAt js i) ∧ jl (rcdAt js i) ≤ (ps.length : Int) - 1
      · rw [decide_eq_true hr] at c0
        obtain ⟨m, e, hm, c1, c2, c3⟩ := facts i hi hr
        cases g1 : gl (part ss m) (jf (rcdAt js i)) with
        | false => rw [g1] at c2; exact zh9 (by omega) cl (by omega) (by omega) c0 rfl hr.1 (by show jl _ < _; omega) c1 c2 rfl hq
        | true =>
          rw [g1] at c2
          cases g2 : gl (part ss m) (jt (rcdAt js i)) with
          | false => rw [g2] at c3; exact zha (by omega) cl (by omega) (by omega) c0 rfl hr.1 (by show jl _ < _; omega) c1 c2 rfl c3 rfl hq
          | true =>
            rw [g2] at c3
            have hok : jOK ps ss (rcdAt js i) = true := by
              unfold jOK
              rw [decide_eq_true hr, e, Int.toNat_natCast, g1, g2]; rfl
            unfold jAt at hp
            rw [hok, Bool.true_and, Bool.or_eq_false_iff, decide_eq_false_iff_not, decide_eq_false_iff_not] at hp
            obtain ⟨h0, ho⟩ := hp
            have hprev := hh (i - 1) (by omega)
            unfold jAt jOK at hprev
            rw [Bool.and_eq_true, Bool.and_eq_true, decide_eq_true_eq] at hprev
            have hr' := hprev.1.1
            have e1 : ((i : Int) - 1).toNat = i - 1 := by omega
            have c4 : Runs X F.zi [.agg [iD (jl (rcdAt js (i - 1))), lD (jf (rcdAt js (i - 1))), lD (jt (rcdAt js (i - 1)))], .agg [iD (jl (rcdAt js i)), lD (jf (rcdAt js i)), lD (jt (rcdAt js i))]] [] (intR (cj (rcdAt js (i - 1)) (rcdAt js i))) := by
              unfold cj cjP
              by_cases hq : jl (rcdAt js (i - 1)) = jl (rcdAt js i)
              · rw [if_pos hq]; exact zb6 hq (z57 _ _ (hL.hjf _ (by omega)))
              · rw [if_neg hq]; exact zb5 hq (by omega) (by omega)
            rw [← e1] at c4
            rw [← e1] at ho
            exact zhb (by omega) cl (by omega) (by omega) c0 rfl hr.1 (by show jl _ < _; omega) c1 c2 rfl c3 rfl (by omega) (by omega) c4 (by omega) hq
      · rw [decide_eq_false hr] at c0
        exact zh8 (by omega) cl (by omega) (by omega) c0 rfl hq
    · exact zhe (by omega) hq
  unfold gj
  cases hd : (List.range js.length).all (jAt ps ss js) with
  | true =>
    rw [hd] at body
    have := zh7 body
    rw [show decide ((js.length : Int) ≤ 64) = decide (js.length ≤ 64) by simp only [decide_eq_decide]; omega] at this
    rw [Bool.true_and]
    exact this
  | false =>
    rw [hd] at body
    exact zh6 body
theorem zlp (hL : Lim ps ss st js fs) (hp : pl ss.length ps = true) (hs : Sz ss) : Runs X F.zg [zD ps ss st js fs] [] (boolR (gj ps ss js)) := by
  obtain ⟨⟨n1, n4⟩, hp8, hpm⟩ := pl_spec hp
  have hjs := hL.hjs
  unfold B40 at hjs
  have body : WpL X F.zg 0 (lb Tryd.f61 0) (zu ps ss st js fs 0).st (fun o => o = (if (List.range js.length).all (jAt ps ss js) then z6p ps ss st js fs else z1t ps ss st js fs).out) := by
    have facts : ∀ i, i < js.length → 0 ≤ jl (rcdAt js i) ∧ jl (rcdAt js i) ≤ (ps.length : Int) - 1 → ∃ m : Nat, ps.getD (jl (rcdAt js i)).toNat 0 = m ∧ m < 2 ^ ss.length ∧
        Runs X F.z8 [zD ps ss st js fs, iD (ps.getD (jl (rcdAt js i)).toNat 0), lD (jf (rcdAt js i))] [] (boolR (gl (part ss m) (jf (rcdAt js i)))) ∧ Runs X F.z8 [zD ps ss st js fs, iD (ps.getD (jl (rcdAt js i)).toNat 0), lD (jt (rcdAt js i))] [] (boolR (gl (part ss m) (jt (rcdAt js i)))) := by
      intro i hi hr
      obtain ⟨m, e, _, hm⟩ := hpm (jl (rcdAt js i)).toNat (by omega)
      rw [e]
      exact ⟨m, rfl, hm, z8w hs hm (by omega) _ (hL.hjf i hi), z8w hs hm (by omega) _ (hL.hjt i hi)⟩
    refine zbx (f := F.zg) (b := 0) (body := lb Tryd.f61 0) (N := js.length) (st := fun i => zu ps ss st js fs i) (p := jAt ps ss js) (fun i hi hh hp Q hq => ?_) (fun i hi hh hp Q hq => ?_) (fun Q hq => ?_)
    · unfold jAt jOK at hp
      rw [Bool.and_eq_true, Bool.and_eq_true, Bool.and_eq_true, decide_eq_true_eq, Bool.or_eq_true, decide_eq_true_eq, decide_eq_true_eq] at hp
      obtain ⟨⟨hr, g1, g2⟩, ho⟩ := hp
      obtain ⟨m, e, hm, c2, c3⟩ := facts i hi hr
      have c0 := z35 (jl (rcdAt js i)) 0 ((ps.length : Int) - 1)
      rw [decide_eq_true hr] at c0
      rw [e, Int.toNat_natCast] at g1 g2
      rw [g1] at c2
      rw [g2] at c3
      by_cases h0 : i = 0
      · exact zo3 (by omega) (by omega) c0 rfl hr.1 (by show jl _ < _; omega) c2 rfl c3 rfl (by omega) hq
      · have ho := ho.resolve_left h0
        have e1 : ((i : Int) - 1).toNat = i - 1 := by omega
        have c4 := z6g (jf (rcdAt js (i - 1))) (jf (rcdAt js i)) (hL.hjf _ (by omega))
        unfold cj at ho
        rw [cjP_lt] at ho
        rw [← e1] at ho c4
        rcases ho with ho | ⟨ho1, ho2⟩
        · exact zo2 (by omega) (by omega) c0 rfl hr.1 (by show jl _ < _; omega) c2 rfl c3 rfl (by omega) (by omega) (by show ¬ jl _ < jl _; omega) (by show ¬ jl _ = jl _; omega) (by omega) hq
        · rw [decide_eq_true ho2] at c4
          exact zo1 (by omega) (by omega) c0 rfl hr.1 (by show jl _ < _; omega) c2 rfl c3 rfl (by omega) (by omega) (by show ¬ jl _ < jl _; omega) ho1.symm c4 rfl (by omega) hq
    · have c0 := z35 (jl (rcdAt js i)) 0 ((ps.length : Int) - 1)
      by_cases hr : 0 ≤ jl (rcdAt js i) ∧ jl (rcdAt js i) ≤ (ps.length : Int) - 1
      · rw [decide_eq_true hr] at c0
        obtain ⟨m, e, hm, c2, c3⟩ := facts i hi hr
        cases g1 : gl (part ss m) (jf (rcdAt js i)) with
        | false => rw [g1] at c2; exact znx (by omega) (by omega) c0 rfl hr.1 (by show jl _ < _; omega) c2 rfl hq
        | true =>
          rw [g1] at c2
          cases g2 : gl (part ss m) (jt (rcdAt js i)) with
          | false => rw [g2] at c3; exact zny (by omega) (by omega) c0 rfl hr.1 (by show jl _ < _; omega) c2 rfl c3 rfl hq
          | true =>
            rw [g2] at c3
            have hok : jOK ps ss (rcdAt js i) = true := by
              unfold jOK
              rw [decide_eq_true hr, e, Int.toNat_natCast, g1, g2]; rfl
            unfold jAt at hp
            rw [hok, Bool.true_and, Bool.or_eq_false_iff, decide_eq_false_iff_not, decide_eq_false_iff_not] at hp
            obtain ⟨h0, ho⟩ := hp
            have e1 : ((i : Int) - 1).toNat = i - 1 := by omega
            have c4 := z6g (jf (rcdAt js (i - 1))) (jf (rcdAt js i)) (hL.hjf _ (by omega))
            unfold cj at ho
            rw [cjP_lt] at ho
            rw [← e1] at ho c4
            by_cases hlt : jl (rcdAt js i) < jl (rcdAt js ((i : Int) - 1).toNat)
            · exact znz (by omega) (by omega) c0 rfl hr.1 (by show jl _ < _; omega) c2 rfl c3 rfl (by omega) (by omega) hlt hq
            · have heq : jl (rcdAt js i) = jl (rcdAt js ((i : Int) - 1).toNat) := by
                rcases Int.lt_trichotomy (jl (rcdAt js i)) (jl (rcdAt js ((i : Int) - 1).toNat)) with h | h | h
                · exact absurd h hlt
                · exact h
                · exact absurd (.inl h) ho
              have hnl : ¬ cmpL (jf (rcdAt js ((i : Int) - 1).toNat)) (jf (rcdAt js i)) < 0 := fun h => ho (.inr ⟨heq.symm, h⟩)
              rw [decide_eq_false hnl] at c4
              exact zo0 (by omega) (by omega) c0 rfl hr.1 (by show jl _ < _; omega) c2 rfl c3 rfl (by omega) (by omega) hlt heq c4 rfl hq
      · rw [decide_eq_false hr] at c0
        exact znw (by omega) (by omega) c0 rfl hq
    · exact zo4 (by omega) hq
  unfold gj
  cases hd : (List.range js.length).all (jAt ps ss js) with
  | true =>
    rw [hd] at body
    have := znv body
    rw [show decide ((js.length : Int) ≤ 64) = decide (js.length ≤ 64) by simp only [decide_eq_decide]; omega] at this
    rw [Bool.true_and]
    exact this
  | false =>
    rw [hd] at body
    exact znu body
def fAt (ss : List Int) (fs : List (List Int)) (i : Nat) : Bool := gl ss (fs.getD i []) && (decide (i = 0) || decide (cmpL (fs.getD (i - 1) []) (fs.getD i []) < 0))
def asy (ps ss st : List Int) (js : List Rcd) (fs : List (List Int)) : Bool :=
  pl ss.length ps && ((ss.all fun x => decide (1 ≤ x ∧ x ≤ 4)) && (gl ss st && (gj ps ss js && ((List.range fs.length).all (fAt ss fs) && decide (fs.length ≤ 64)))))
theorem all_get {ss : List Int} {q : Int → Bool} : ss.all q = (List.range ss.length).all fun i => q (ss.getD i 0) := by
  rw [Bool.eq_iff_iff, List.all_eq_true, List.all_eq_true]
  constructor
  · intro h i hi
    have hi := List.mem_range.1 hi
    rw [getD_lt hi]; exact h _ (List.getElem_mem hi)
  · intro h x hx
    obtain ⟨i, hi, rfl⟩ := List.getElem_of_mem hx
    have := h i (List.mem_range.2 hi)
    rwa [getD_lt hi] at this
theorem sz_of {ss : List Int} (h : (ss.all fun x => decide (1 ≤ x ∧ x ≤ 4)) = true) : Sz ss := fun i hi => by
  rw [all_get, List.all_eq_true] at h
  have := h i (List.mem_range.2 hi)
  rwa [decide_eq_true_eq] at this
theorem zld (hL : Lim ps ss st js fs) : Runs X F.ze [zD ps ss st js fs] [] (boolR (asy ps ss st js fs)) := by
  have hfl := hL.hfs
  unfold B40 at hfl
  have c1 := z8x ss
  have c2 := zlg ss.length ps hL.hps
  unfold asy
  cases h1 : pl ss.length ps with
  | false => rw [h1] at c2; exact zgj c1 c2 rfl
  | true =>
    rw [h1] at c2
    have c3 := zcp ss 1 4 hL.hss
    cases h2 : ss.all fun x => decide (1 ≤ x ∧ x ≤ 4) with
    | false => rw [h2] at c3; exact zgk c1 c2 rfl c3 rfl
    | true =>
      rw [h2] at c3
      have hs := sz_of h2
      have c4 := z4k hs st hL.hst
      cases h3 : gl ss st with
      | false => rw [h3] at c4; exact zgl c1 c2 rfl c3 rfl c4 rfl
      | true =>
        rw [h3] at c4
        have c5 := zlm hL h1 hs
        cases h4 : gj ps ss js with
        | false => rw [h4] at c5; exact zgm c1 c2 rfl c3 rfl c4 rfl c5 rfl
        | true =>
          rw [h4] at c5
          simp only [Bool.true_and]
          by_cases h64 : fs.length ≤ 64
          · rw [decide_eq_true h64, Bool.and_true]
            have body : WpL X F.ze 0 (lb Tryd.f34 0) (z1i ps ss st js fs 0).st (fun o => o = (if (List.range fs.length).all (fAt ss fs) then z5l else z48).out) := by
              refine z4g (f := F.ze) (b := 0) (body := lb Tryd.f34 0) (N := fs.length) (st := fun i => z1i ps ss st js fs i) (p := fAt ss fs) (fun i hi hp Q hq => ?_) (fun i hi hp Q hq => ?_) (fun Q hq => ?_)
              · have g := z4k hs (fs.getD i []) (hL.hff i hi)
                unfold fAt at hp
                rw [Bool.and_eq_true, Bool.or_eq_true, decide_eq_true_eq, decide_eq_true_eq] at hp
                rw [hp.1] at g
                by_cases h0 : i = 0
                · exact zgt (by omega) (by omega) g rfl (by omega) hq
                · have e1 : ((i : Int) - 1).toNat = i - 1 := by omega
                  have c := z57 (fs.getD (i - 1) []) (fs.getD i []) (hL.hff _ (by omega))
                  have ho := hp.2.resolve_left h0
                  rw [← e1] at c ho
                  exact zgs (by omega) (by omega) g rfl (by omega) c (by omega) hq
              · have g := z4k hs (fs.getD i []) (hL.hff i hi)
                cases hg : gl ss (fs.getD i []) with
                | false => rw [hg] at g; exact zgq (by omega) (by omega) g rfl hq
                | true =>
                  rw [hg] at g
                  unfold fAt at hp
                  rw [hg, Bool.true_and, Bool.or_eq_false_iff, decide_eq_false_iff_not, decide_eq_false_iff_not] at hp
                  obtain ⟨h0, ho⟩ := hp
                  have e1 : ((i : Int) - 1).toNat = i - 1 := by omega
                  have c := z57 (fs.getD (i - 1) []) (fs.getD i []) (hL.hff _ (by omega))
                  rw [← e1] at c ho
                  exact zgr (by omega) (by omega) g rfl (by omega) c (by omega) hq
              · exact zgu (by omega) (by omega) hq
            cases hd : (List.range fs.length).all (fAt ss fs) with
            | true => rw [hd] at body; exact zgp c1 c2 rfl c3 rfl c4 rfl c5 rfl (by omega) body
            | false => rw [hd] at body; exact zgo c1 c2 rfl c3 rfl c4 rfl c5 rfl (by omega) body
          · rw [decide_eq_false h64, Bool.and_false]
            exact zgn c1 c2 rfl c3 rfl c4 rfl c5 rfl (by omega)
theorem zlw (hL : Lim ps ss st js fs) : Runs X F.z6 [zD ps ss st js fs] [] (boolR (asy ps ss st js fs)) := by
  have hfl := hL.hfs
  have hsl := hL.hss
  unfold B40 at hfl hsl
  have c2 := zlr ss.length ps hL.hps
  unfold asy
  cases h1 : pl ss.length ps with
  | false => rw [h1] at c2; exact zmq c2 rfl
  | true =>
    rw [h1] at c2
    have n4 := (pl_spec h1).1.2
    have b1 : WpL X F.z6 0 (lb Tryd.f29 0) (z14 ps ss st js fs 0).st (fun o => o = (if (List.range ss.length).all (fun i => decide (1 ≤ ss.getD i 0 ∧ ss.getD i 0 ≤ 4)) then z1r ps ss st js fs else z6k ps ss st js fs).out) := by
      refine z4g (f := F.z6) (b := 0) (body := lb Tryd.f29 0) (N := ss.length) (st := fun i => z14 ps ss st js fs i) (p := fun i => decide (1 ≤ ss.getD i 0 ∧ ss.getD i 0 ≤ 4)) (fun i hi hp Q hq => ?_) (fun i hi hp Q hq => ?_) (fun Q hq => ?_)
      · have c := z35 (ss.getD i 0) 1 4
        rw [hp] at c
        exact zmx (by omega) c rfl (by omega) hq
      · have c := z35 (ss.getD i 0) 1 4
        rw [hp] at c
        exact zmw (by omega) c rfl hq
      · exact zmy (by omega) hq
    rw [← all_get (q := fun x => decide (1 ≤ x ∧ x ≤ 4))] at b1
    cases h2 : ss.all fun x => decide (1 ≤ x ∧ x ≤ 4) with
    | false => rw [h2] at b1; exact zmr c2 rfl b1
    | true =>
      rw [h2] at b1
      have hs := sz_of h2
      have c4 := z6h (ps := ps) (st := st) (js := js) (fs := fs) hs n4 st hL.hst
      cases h3 : gl ss st with
      | false => rw [h3] at c4; exact zms c2 rfl b1 c4 rfl
      | true =>
        rw [h3] at c4
        have c5 := zlp hL h1 hs
        cases h4 : gj ps ss js with
        | false => rw [h4] at c5; exact zmt c2 rfl b1 c4 rfl c5 rfl
        | true =>
          rw [h4] at c5
          simp only [Bool.true_and]
          have body : WpL X F.z6 2 (lb Tryd.f29 1) (z1l ps ss st js fs 0).st (fun o => o = (if (List.range fs.length).all (fAt ss fs) then z6l ps ss st js fs else z4p ps ss st js fs).out) := by
            refine z4g (f := F.z6) (b := 2) (body := lb Tryd.f29 1) (N := fs.length) (st := fun i => z1l ps ss st js fs i) (p := fAt ss fs) (fun i hi hp Q hq => ?_) (fun i hi hp Q hq => ?_) (fun Q hq => ?_)
            · have g := z6h (ps := ps) (st := st) (js := js) (fs := fs) hs n4 (fs.getD i []) (hL.hff i hi)
              unfold fAt at hp
              rw [Bool.and_eq_true, Bool.or_eq_true, decide_eq_true_eq, decide_eq_true_eq] at hp
              rw [hp.1] at g
              by_cases h0 : i = 0
              · exact zn2 b1 (by omega) g rfl (by omega) hq
              · have e1 : ((i : Int) - 1).toNat = i - 1 := by omega
                have c := z6g (fs.getD (i - 1) []) (fs.getD i []) (hL.hff _ (by omega))
                have ho := hp.2.resolve_left h0
                rw [decide_eq_true ho, ← e1] at c
                exact zn1 b1 (by omega) g rfl (by omega) (by omega) c rfl (by omega) hq
            · have g := z6h (ps := ps) (st := st) (js := js) (fs := fs) hs n4 (fs.getD i []) (hL.hff i hi)
              cases hg : gl ss (fs.getD i []) with
              | false => rw [hg] at g; exact zmz b1 (by omega) g rfl hq
              | true =>
                rw [hg] at g
                unfold fAt at hp
                rw [hg, Bool.true_and, Bool.or_eq_false_iff, decide_eq_false_iff_not, decide_eq_false_iff_not] at hp
                obtain ⟨h0, ho⟩ := hp
                have e1 : ((i : Int) - 1).toNat = i - 1 := by omega
                have c := z6g (fs.getD (i - 1) []) (fs.getD i []) (hL.hff _ (by omega))
                rw [decide_eq_false ho, ← e1] at c
                exact zn0 b1 (by omega) g rfl (by omega) (by omega) c rfl hq
            · exact zn3 b1 (by omega) hq
          cases hd : (List.range fs.length).all (fAt ss fs) with
          | true =>
            rw [hd] at body
            have := zmv c2 rfl b1 c4 rfl c5 rfl body
            rw [show decide ((fs.length : Int) ≤ 64) = decide (fs.length ≤ 64) by simp only [decide_eq_decide]; omega] at this
            rw [Bool.true_and]
            exact this
          | false =>
            rw [hd] at body
            exact zmu c2 rfl b1 c4 rfl c5 rfl body
end
end Go.PR.S
