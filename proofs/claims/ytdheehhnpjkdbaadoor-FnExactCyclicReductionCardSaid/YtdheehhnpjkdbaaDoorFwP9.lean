/- What the program's functions come to, ninth part: the reference's normal forms. -/
import Derived.Test.YtdheehhnpjkdbaaDoorFwP8
set_option linter.unusedVariables false
set_option maxRecDepth 20000
namespace Go.PR.S
open Go Go.PR Go.Proofs Gp

theorem run_l01Own (w : List Int) (hl : w.length ≤ 4 * B40) : Runs X F.spec_l01Own [lD w] [] (rowR w) := spec_l01Own_p1 (by unfold B40 at hl; omega)

theorem run_l03Without {w : List Int} {i : Nat} (hi : i < w.length) (hl : w.length ≤ B40) : Runs X F.spec_l03Without [lD w, iD i] [] (rowR (w.eraseIdx i)) := by
  have e1 : ((i : Int)).toNat - 0 = i := by omega
  have e2 : ((i : Int) + 1).toNat = i + 1 := by omega
  have e3 : List.take (w.length - (i + 1)) (List.drop (i + 1) w) = w.drop (i + 1) := List.take_of_length_le (by simp)
  have c1 := run_l01Own (w.take i) (by simp only [List.length_take]; unfold B40 at *; omega)
  have := spec_l03Without_p1 (w := w) (i := (i : Int)) (xs3 := w.take i) (by omega) (by omega) (by rw [e1, List.drop_zero]; exact c1) (by unfold B40 at hl; omega) (by omega) (by rw [e2, e3]; simp only [List.length_take, List.length_drop]; unfold B40 at hl; omega)
  rw [e2, e3, ← List.eraseIdx_eq_take_drop_succ] at this
  exact this

section
variable {T : Dep Int} {m : Nat} {t : List Int}

theorem run_depT (ht : Tab T m t) (n : Int) {a b : Int} (ha : 0 ≤ a ∧ a < m) (hb : 0 ≤ b ∧ b < m) : Runs X F.spec_l02Dep [alD n t, iD a, iD b] [] (boolR (T.d a b)) := by
  have hs := ht.small
  have hlen := ht.len
  obtain ⟨k, hk, hke, hkb⟩ := ht.mask a.toNat (by omega)
  have hk63 : k < 2 ^ 63 := Nat.lt_of_lt_of_le hk (Nat.pow_le_pow_right (by omega) (by omega))
  have c := run_l01Bit (m := k) (i := b.toNat) hk63 (by omega)
  have e : tb (k : Int) (b.toNat : Int) = T.d a b := by
    have := hkb b.toNat (by omega)
    have e1 : ((a.toNat : Nat) : Int) = a := by omega
    have e2 : ((b.toNat : Nat) : Int) = b := by omega
    rw [e1, e2] at this
    unfold tb; rw [Int.toNat_natCast, Int.toNat_natCast]; exact this
  rw [e, ← hke] at c
  have e2 : ((b.toNat : Nat) : Int) = b := by omega
  rw [e2] at c
  exact spec_l02Dep_p1 (by omega) (by omega) c

theorem run_l03First (ht : Tab T m t) (n : Int) {w : List Int} (hw : Wd m w) {a : Int} (ha : 0 ≤ a ∧ a < m) (hl : w.length ≤ B40) :
    Runs X F.spec_l03First [alD n t, lD w, iD a] [] (intR (if isFirst T w a then (w.idxOf a : Int) else -1)) := by
  have key : ∀ (S P : List Int), w = P ++ S → (∀ y ∈ P, y ≠ a ∧ T.d y a = false) →
      (isFirst T S a = true → WL F.spec_l03First 0 Tryd.f103 0 (spec_l03First_s0 n t w a P.length) (spec_l03First_o0_1 (w.idxOf a))) ∧
      (isFirst T S a = false → WL F.spec_l03First 0 Tryd.f103 0 (spec_l03First_s0 n t w a P.length) (spec_l03First_o0_1 (-1)) ∨ WL F.spec_l03First 0 Tryd.f103 0 (spec_l03First_s0 n t w a P.length) spec_l03First_o0_2) := by
    intro S
    induction S with
    | nil =>
      intro P e hP
      refine ⟨(fun h => by cases h), fun _ => .inr ?_⟩
      have : w.length = P.length := by rw [e]; simp
      apply spec_l03First_r0_4
      case hq => rfl
      all_goals omega
    | cons y S ih =>
      intro P e hP
      have hlt : P.length < w.length := by rw [e]; simp
      have hg : w.getD P.length 0 = y := by rw [getD_lt hlt]; simp [e]
      have hyw : y ∈ w := by rw [e]; simp
      have hyr := hw y hyw
      have c1 := run_depT ht n (a := y) (b := a) hyr ha
      rw [← hg] at c1
      by_cases hya : y = a
      · subst hya
        refine ⟨fun _ => ?_, fun h => by simp [isFirst] at h⟩
        have hidx : w.idxOf y = P.length := by rw [e]; exact idxOf_mid fun hm => (hP y hm).1 rfl
        rw [hidx]
        apply spec_l03First_r0_1
        case hq => rfl
        all_goals first | exact hg | omega
      · have hfs : isFirst T (y :: S) a = (!T.d y a && isFirst T S a) := by simp [isFirst, hya]
        cases hd : T.d y a with
        | true =>
          refine ⟨(fun h => by rw [hfs, hd] at h; cases h), fun _ => .inl ?_⟩
          apply spec_l03First_r0_2
          case hq => rfl
          all_goals first | exact c1 | (rw [hg]; first | exact hya | exact hd) | omega
        | false =>
          have ih' := ih (P ++ [y]) (by rw [e]; simp) (fun z hz => by
            rcases List.mem_append.1 hz with hz | hz
            · exact hP z hz
            · simp at hz; subst hz; exact ⟨hya, hd⟩)
          have el : (P ++ [y]).length = P.length + 1 := by simp
          rw [el] at ih'
          have step : ∀ o, WL F.spec_l03First 0 Tryd.f103 0 (spec_l03First_s0 n t w a (P.length + 1)) o → WL F.spec_l03First 0 Tryd.f103 0 (spec_l03First_s0 n t w a P.length) o := by
            intro o ho
            apply spec_l03First_r0_3
            case hq => exact ho
            all_goals first | exact c1 | (rw [hg]; first | exact hya | exact hd) | (unfold B40 at hl; omega)
          rw [hfs, hd]
          refine ⟨fun h => step _ (ih'.1 (by simpa using h)), fun h => ?_⟩
          rcases ih'.2 (by simpa using h) with h1 | h1
          · exact .inl (step _ h1)
          · exact .inr (step _ h1)
  have h0 := key w [] (by simp) (by simp)
  cases hf : isFirst T w a with
  | true => exact spec_l03First_p1 (h0.1 hf)
  | false =>
    rcases h0.2 hf with h1 | h1
    · exact spec_l03First_p1 h1
    · exact spec_l03First_p2 h1

theorem erase_idx {w : List Int} {a : Int} : w.eraseIdx (w.idxOf a) = w.erase a := (List.erase_eq_eraseIdx_of_idxOf rfl).symm

theorem run_l03Normal (ht : Tab T m t) {w : List Int} (hw : Wd m w) (hl : w.length ≤ B40) : Runs X F.spec_l03Normal [alD m t, lD w] [] (rowR (nform T m w)) := by
  have hs := ht.small
  have loop : ∀ (k : Nat) (out rest : List Int), rest.length = k → Wd m rest → out.length + k ≤ B40 →
      WL F.spec_l03Normal 0 Tryd.f90 0 (spec_l03Normal_s0 m t out rest) (spec_l03Normal_o0_1 (out ++ nfk T m k rest)) := by
    intro k
    induction k with
    | zero =>
      intro out rest hn hr hb
      apply spec_l03Normal_r0_2
      case hq => simp [nfk]
      all_goals omega
    | succ k ih =>
      intro out rest hn hr hb
      have hne : rest ≠ [] := by intro e; subst e; cases hn
      have hmem := least_mem (T := T) hs hr hne
      have hsome := leastF_ctz (T := T) hs hr hne
      obtain ⟨hfst, hr0, hrm⟩ := leastF_some hsome
      rw [nfk_step hs hr hne]
      have hf63 : firstM T m rest < 2 ^ 63 := Nat.lt_of_lt_of_le (firstM_lt m _) (Nat.pow_le_pow_right (by omega) (by omega))
      have hlow := (low_bit (firstM_ne (T := T) hr hne) hf63).2.1
      generalize Go.Lib.ctz 64 (firstM T m rest) = a at *
      have ham : a < m := by omega
      have hbelow : ∀ b, b < a → isFirst T rest (b : Int) = false := fun b hb => by
        have := hlow b hb
        rw [firstM_bit] at this
        simpa [show b < m by omega] using this
      have inner : WL F.spec_l03Normal 2 Tryd.f90 1 (spec_l03Normal_s1 m t out rest 0) (spec_l03Normal_o1_1 m t (out ++ [(a : Int)]) (rest.erase (a : Int))) := by
        refine loop_to (N := a) (st := fun b => spec_l03Normal_s1 m t out rest b) (fun b hb Q hq => ?_) (fun Q hq => ?_)
        · have c1 := run_l03First ht (m : Int) hr (a := (b : Int)) (by omega) (by omega)
          rw [hbelow b hb] at c1
          apply spec_l03Normal_r1_2
          case hq => exact hq
          all_goals first | exact c1 | (unfold B40 at hb; omega) | (simp; done)
        · have c1 := run_l03First ht (m : Int) hr (a := (a : Int)) (by omega) (by omega)
          rw [hfst] at c1
          have hix : rest.idxOf (a : Int) < rest.length := List.idxOf_lt_length_of_mem hmem
          have c2 := run_l03Without hix (by omega)
          rw [erase_idx] at c2
          apply spec_l03Normal_r1_1
          case hq => exact hq
          all_goals first | exact c1 | exact c2 | (simp only [if_true]; omega) | (unfold B40 at hb; omega)
      apply spec_l03Normal_r0_1
      case hq =>
        have := ih (out ++ [(a : Int)]) (rest.erase (a : Int)) (by rw [List.length_erase_of_mem hmem]; omega) (hr.erase _) (by simp; omega)
        rw [List.append_assoc] at this
        exact this
      all_goals first | exact inner | omega
  have h0 := loop w.length [] w rfl hw (by simpa using hl)
  exact spec_l03Normal_p1 (run_l01Own w (by unfold B40 at *; omega)) h0

end

/-! ### spec.l09Reduce -/
theorem red_of_all {G : Grp Int} : ∀ {R : List Int}, (∀ j, (hj : j < R.length) → isFirst G.toDep (R.drop (j + 1)) (G.inv R[j]) = false) → red G R
  | [], _ => trivial
  | s :: R, h => ⟨h 0 (by simp), red_of_all fun j hj => h (j + 1) (by simpa using hj)⟩

section
variable {n : Nat} {d : List Int}

theorem run_l09Reduce (h : Al n d) {w : List Int} (hw : Wd (2 * n) w) (hl : w.length ≤ B40) : Runs X F.spec_l09Reduce [alD (2 * (n : Int)) (dblL n d), lD w] [] (rowR (gnf h w)) := by
  have hs := h.small
  have ht := tab_dbl h
  let M2 : Int := 2 * (n : Int)
  have inner : ∀ (out : List Int) (i : Nat), out.length ≤ B40 → Wd (2 * n) out → (hi : i < out.length) →
      WL F.spec_l09Reduce 2 Tryd.f51 1 (spec_l09Reduce_s1 M2 (dblL n d) i out (i + 1)) (if isFirst (grp h).toDep (out.drop (i + 1)) (opp out[i]) then spec_l09Reduce_o1_1 M2 (dblL n d) (-1) (out.take i ++ (out.drop (i + 1)).erase (opp out[i])) else spec_l09Reduce_o1_1 M2 (dblL n d) i out) := by
    intro out i hlen hW hi
    have hx := hW out[i] (List.getElem_mem hi)
    have hg : out.getD (0 + ((i : Int)).toNat) 0 = out[i] := by rw [Nat.zero_add, Int.toNat_natCast, getD_lt hi]
    have c1 := run_l09Opposite (a := out[i]) (by omega)
    rw [← hg] at c1
    have hox : opp (out.getD (0 + ((i : Int)).toNat) 0) = opp out[i] := by rw [hg]
    have key : ∀ (S P : List Int), out.drop (i + 1) = P ++ S → (∀ y ∈ P, y ≠ opp out[i] ∧ (grp h).d out[i] y = false) →
        WL F.spec_l09Reduce 2 Tryd.f51 1 (spec_l09Reduce_s1 M2 (dblL n d) i out ((i : Int) + 1 + P.length)) (if isFirst (grp h).toDep S (opp out[i]) then spec_l09Reduce_o1_1 M2 (dblL n d) (-1) (out.take i ++ (out.drop (i + 1)).erase (opp out[i])) else spec_l09Reduce_o1_1 M2 (dblL n d) i out) := by
      intro S
      induction S with
      | nil =>
        intro P e hP
        have hlen2 : out.length = i + 1 + P.length := by
          have := congrArg List.length e
          simp at this; omega
        rw [if_neg (by simp [isFirst])]
        apply spec_l09Reduce_r1_4
        case hq => rfl
        all_goals (unfold B40 at hlen; omega)
      | cons y S ih =>
        intro P e hP
        have hlen2 : out.length = i + 1 + P.length + (S.length + 1) := by
          have := congrArg List.length e
          simp at this; omega
        have hout : out = out.take (i + 1) ++ (P ++ y :: S) := by rw [← e, List.take_append_drop]
        have hk : i + 1 + P.length < out.length := by omega
        have ek : ((i : Int) + 1 + P.length).toNat = i + 1 + P.length := by omega
        have hgk : out.getD (0 + ((i : Int) + 1 + P.length).toNat) 0 = y := by
          rw [Nat.zero_add, ek, getD_lt hk]
          have : out[i + 1 + P.length]? = some y := by
            rw [hout, List.getElem?_append_right (by simp; omega), List.getElem?_append_right (by simp; omega)]
            have : i + 1 + P.length - (out.take (i + 1)).length - P.length = 0 := by simp; omega
            rw [this]; rfl
          rw [List.getElem?_eq_getElem hk] at this
          exact Option.some.inj this
        have hyw : y ∈ out := by rw [hout]; simp
        have hy := hW y hyw
        have c2 := run_depT ht M2 (a := out[i]) (b := y) hx hy
        rw [← hg, ← hgk] at c2
        by_cases hyc : y = opp out[i]
        · have hfs : isFirst (grp h).toDep (y :: S) (opp out[i]) = true := by simp [isFirst, hyc]
          rw [if_pos hfs]
          have ekk : ((i : Int) + 1 + P.length) = ((i + 1 + P.length : Nat) : Int) := by omega
          have c3 := run_l03Without hk hlen
          rw [← ekk] at c3
          have c4 := run_l03Without (w := out.eraseIdx (i + 1 + P.length)) (i := i) (by rw [List.length_eraseIdx_of_lt hk]; omega) (by rw [List.length_eraseIdx_of_lt hk]; omega)
          have hres : (out.eraseIdx (i + 1 + P.length)).eraseIdx i = out.take i ++ (out.drop (i + 1)).erase (opp out[i]) := by
            rw [e, List.erase_append_right _ (fun hm => (hP _ hm).1 rfl), hyc, List.erase_cons_head]
            rw [List.eraseIdx_eq_take_drop_succ, List.eraseIdx_eq_take_drop_succ, List.take_append_of_le_length (by simp; omega), List.take_take, Nat.min_eq_left (by omega)]
            congr 1
            rw [List.drop_append_of_le_length (by simp; omega)]
            have e5 : (out.take (i + 1 + P.length)).drop (i + 1) = P := by
              rw [List.drop_take, e, show i + 1 + P.length - (i + 1) = P.length by omega, List.take_left']
              rfl
            have e6 : out.drop (i + 1 + P.length + 1) = S := by
              have : out.drop (i + 1 + P.length + 1) = (out.drop (i + 1)).drop (P.length + 1) := by rw [List.drop_drop]; congr 1
              rw [this, e, List.drop_append]
              simp
            rw [e5, e6]
          rw [hres] at c4
          apply spec_l09Reduce_r1_1
          case hq => rfl
          all_goals first | exact c1 | exact c3 | exact c4 | (rw [hgk, hox]; exact hyc) | (unfold B40 at hlen; omega)
        · have hfs : isFirst (grp h).toDep (y :: S) (opp out[i]) = (!(grp h).d out[i] y && isFirst (grp h).toDep S (opp out[i])) := by
            have e1 : (grp h).d y (opp out[i]) = (grp h).d out[i] y := by
              have := Grp.dinv' (G := grp h) y out[i]
              rw [(grp h).sym y out[i]] at this
              exact this
            simp only [isFirst, hyc, decide_false, Bool.false_or, e1]
          cases hd : (grp h).d out[i] y with
          | true =>
            rw [hfs, hd, if_neg (by simp)]
            apply spec_l09Reduce_r1_2
            case hq => rfl
            all_goals first | exact c1 | exact c2 | (rw [hgk, hox]; exact hyc) | (rw [hg, hgk]; exact hd) | (unfold B40 at hlen; omega)
          | false =>
            rw [hfs, hd]
            have ih' := ih (P ++ [y]) (by rw [e]; simp) (fun z hz => by
              rcases List.mem_append.1 hz with hz | hz
              · exact hP z hz
              · simp at hz; subst hz; exact ⟨hyc, hd⟩)
            have el : ((i : Int) + 1 + (P ++ [y]).length) = (i : Int) + 1 + P.length + 1 := by simp; omega
            rw [el] at ih'
            simp only [Bool.not_false, Bool.true_and]
            apply spec_l09Reduce_r1_3
            case hq => exact ih'
            all_goals first | exact c1 | exact c2 | (rw [hgk, hox]; exact hyc) | (rw [hg, hgk]; exact hd) | (unfold B40 at hlen; omega)
    have := key (out.drop (i + 1)) [] (by simp) (by simp)
    have e0 : ((i : Int) + 1 + ([] : List Int).length) = (i : Int) + 1 := by simp
    rw [e0] at this
    exact this
  -- the outer loop
  have outer : ∀ (L : Nat) (out : List Int), out.length = L → L ≤ B40 → Wd (2 * n) out → ∀ (q i : Nat), i + q = out.length → (∀ j, j < i → (hj : j < out.length) → isFirst (grp h).toDep (out.drop (j + 1)) ((grp h).inv out[j]) = false) →
      ∃ fin : List Int, WL F.spec_l09Reduce 0 Tryd.f51 0 (spec_l09Reduce_s0 M2 (dblL n d) i out) (spec_l09Reduce_o0_1 M2 (dblL n d) fin) ∧ Wd (2 * n) fin ∧ fin.length ≤ L ∧ red (grp h) fin ∧ teq (grp h).toDep (fold (grp h) out []) (fold (grp h) fin []) := by
    intro L
    induction L using Nat.strongRecOn with
    | _ L ihL =>
      intro out hoL hLB hW q
      induction q with
      | zero =>
        intro i hi hno
        refine ⟨out, ?_, hW, by omega, red_of_all fun j hj => hno j (by omega) hj, teq.refl _⟩
        apply spec_l09Reduce_r0_2
        case hq => rfl
        all_goals omega
      | succ q ihq =>
        intro i hi hno
        have hil : i < out.length := by omega
        have hin := inner out i (by omega) hW hil
        cases hf : isFirst (grp h).toDep (out.drop (i + 1)) (opp out[i]) with
        | false =>
          rw [hf, if_neg (by simp)] at hin
          obtain ⟨fin, f1, f2, f3, f4, f5⟩ := ihq (i + 1) (by omega) (fun j hj hj2 => by
            by_cases e : j = i
            · subst e; exact hf
            · exact hno j (by omega) hj2)
          refine ⟨fin, ?_, f2, f3, f4, f5⟩
          rw [show ((i + 1 : Nat) : Int) = (i : Int) + 1 by omega] at f1
          apply spec_l09Reduce_r0_1
          case hq => exact f1
          all_goals first | exact hin | (unfold B40 at hLB; omega)
        | true =>
          rw [hf, if_pos rfl] at hin
          obtain ⟨Mm, Bb, hsp, hM⟩ := first_split (G := grp h) hf
          have hMn : opp out[i] ∉ Mm := fun hm => by
            have := hM _ hm
            rw [(grp h).refl] at this; cases this
          have her : (out.drop (i + 1)).erase (opp out[i]) = Mm ++ Bb := by
            rw [hsp, List.erase_append_right _ hMn, List.erase_cons_head]
          have hold : out = out.take i ++ (out[i] :: Mm ++ [(grp h).inv out[i]]) ++ Bb := by
            have : out = out.take i ++ out[i] :: out.drop (i + 1) := by simp
            rw [hsp] at this
            show out = out.take i ++ (out[i] :: Mm ++ [opp out[i]]) ++ Bb
            simpa using this
          rw [her] at hin
          have hlenN : (out.take i ++ (Mm ++ Bb)).length + 2 = out.length := by
            have := congrArg List.length hsp
            simp only [List.length_drop, List.length_append, List.length_cons, List.length_take] at this ⊢
            omega
          have hWN : Wd (2 * n) (out.take i ++ (Mm ++ Bb)) := fun x hx => hW x (by
            rw [hold]
            rcases List.mem_append.1 hx with hx | hx
            · simp [hx]
            · rcases List.mem_append.1 hx with hx | hx <;> simp [hx])
          obtain ⟨fin, f1, f2, f3, f4, f5⟩ := ihL (out.take i ++ (Mm ++ Bb)).length (by omega) _ rfl (by omega) hWN (out.take i ++ (Mm ++ Bb)).length 0 (by omega) (fun j hj => by omega)
          have hcan := fold_cancel_mid (G := grp h) (x := out[i]) (out.take i) Mm Bb (fun y hy => by
            have := hM y hy
            have e1 : (grp h).d y (opp out[i]) = (grp h).d out[i] y := by
              have := Grp.dinv' (G := grp h) y out[i]
              rw [(grp h).sym y out[i]] at this
              exact this
            rw [← e1]; exact this)
          rw [← hold, List.append_assoc] at hcan
          refine ⟨fin, ?_, f2, by omega, f4, hcan.trans f5⟩
          rw [show ((0 : Nat) : Int) = (-1 : Int) + 1 by omega] at f1
          apply spec_l09Reduce_r0_1
          case hq => exact f1
          all_goals first | exact hin | (unfold B40 at hLB; omega)
  obtain ⟨fin, f1, f2, f3, f4, f5⟩ := outer w.length w rfl hl hw w.length 0 (by omega) (fun j hj => by omega)
  have hfold := fold_of_red fin.length fin rfl (red_reverse f4)
  have hte : teq (grp h).toDep (fold (grp h) w []).reverse fin := by
    rw [hfold] at f5
    have := f5.reverse
    rwa [List.reverse_reverse] at this
  have e : gnf h w = nform (grp h).toDep (2 * n) fin := hte.nform _
  rw [e]
  have c := run_l03Normal ht f2 (by omega)
  have e2 : ((2 * n : Nat) : Int) = 2 * (n : Int) := by omega
  rw [e2] at c
  exact spec_l09Reduce_p1 (run_l01Own w (by unfold B40 at *; omega)) f1 c

end
end Go.PR.S
