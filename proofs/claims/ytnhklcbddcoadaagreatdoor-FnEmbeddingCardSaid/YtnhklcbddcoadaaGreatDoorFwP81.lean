/- Positive words: letters as codes of the group. Normal forms and conjugates are the same. -/
import Derived.Test.YtnhklcbddcoadaaGreatDoorFwP72
import Derived.Test.YtnhklcbddcoadaaGreatDoorFwP26
import Derived.Test.YtnhklcbddcoadaaGreatDoorFwP73
import Derived.Test.YtnhklcbddcoadaaGreatDoorFwP40
import Derived.Test.YtnhklcbddcoadaaGreatDoorFwG50
set_option linter.unusedVariables false
set_option linter.unusedSimpArgs false
set_option linter.unusedSectionVars false
section
set_option maxRecDepth 20000
namespace Go.PR.S
open Go Go.PR Go.Proofs Gp
def dbl (a : Int) : Int := 2 * a
theorem dbl_inj {a b : Int} (h : dbl a = dbl b) : a = b := by unfold dbl at h; omega
theorem zcx : ∀ {u v : List Int}, u.map dbl = v.map dbl → u = v
  | [], [], _ => rfl
  | [], _ :: _, h => by simp at h
  | _ :: _, [], h => by simp at h
  | a :: u, b :: v, h => by
    rw [List.map_cons, List.map_cons] at h
    injection h with h1 h2
    rw [dbl_inj h1, zcx h2]
theorem zsv {u v : List Int} : u.map dbl = v.map dbl ↔ u = v := ⟨zcx, fun h => by rw [h]⟩
theorem zbl (a : Int) : ∀ w : List Int, (w.map dbl).erase (dbl a) = (w.erase a).map dbl
  | [] => rfl
  | x :: w => by
    rw [List.map_cons, List.erase_cons, List.erase_cons]
    by_cases h : x = a
    · subst h; simp
    · have h' : ¬ dbl x = dbl a := fun e => h (dbl_inj e)
      simp only [beq_iff_eq, h, h', if_false, List.map_cons]
      rw [zbl a w]
section
variable {T U : Dep Int} (hd : ∀ a b, U.d (dbl a) (dbl b) = T.d a b)
include hd
theorem zcj (a : Int) : ∀ w : List Int, isFirst U (w.map dbl) (dbl a) = isFirst T w a
  | [] => rfl
  | x :: w => by
    simp only [List.map_cons, isFirst, hd, zcj a w]
    have : decide (dbl x = dbl a) = decide (x = a) := by
      rw [Bool.eq_iff_iff, decide_eq_true_eq, decide_eq_true_eq]; exact ⟨dbl_inj, fun e => by rw [e]⟩
    rw [this]
omit hd in
theorem z6a (a : Int) : ∀ w : List Int, isFirst U (w.map dbl) (2 * a + 1) = false
  | [] => rfl
  | x :: w => by
    simp only [List.map_cons, isFirst, z6a a w, Bool.and_false, Bool.or_false, decide_eq_false_iff_not]
    unfold dbl
    omega
theorem zhd (w : List Int) : ∀ m : Nat, leastF U (2 * m) (w.map dbl) = (leastF T m w).map dbl
  | 0 => rfl
  | m + 1 => by
    have ih := zhd w m
    unfold Gp.leastF at ih ⊢
    have e : 2 * (m + 1) = 2 * m + 1 + 1 := by omega
    rw [e, List.range_succ, List.range_succ, List.range_succ, List.map_append, List.map_append, List.map_append, List.find?_append, List.find?_append, List.find?_append, ih]
    have k1 := zcj hd (m : Int) w
    have k2 := z6a (U := U) (m : Int) w
    have e1 : ((2 * m : Nat) : Int) = dbl m := by unfold dbl; omega
    have e2 : ((2 * m + 1 : Nat) : Int) = 2 * (m : Int) + 1 := by omega
    simp only [List.map_cons, List.map_nil, e1, e2, List.find?_cons, List.find?_nil, k1, k2]
    cases (List.map (fun (i : Nat) => (i : Int)) (List.range m)).find? fun a => isFirst T w a <;> cases isFirst T w m <;> rfl
theorem nfk_dbl (m : Nat) : ∀ (k : Nat) (w : List Int), nfk U (2 * m) k (w.map dbl) = (nfk T m k w).map dbl
  | 0, _ => rfl
  | k + 1, w => by
    simp only [nfk, zhd hd]
    cases leastF T m w with
    | none => rfl
    | some a =>
      simp only [Option.map_some, List.map_cons]
      rw [zbl, nfk_dbl m k]
theorem zd4 (m : Nat) (w : List Int) : nform U (2 * m) (w.map dbl) = (nform T m w).map dbl := by
  unfold nform
  rw [List.length_map, nfk_dbl hd]
theorem zui (m : Nat) (w : List Int) (a : Int) : rotT U (2 * m) (w.map dbl) (dbl a) = (rotT T m w a).map dbl := by
  unfold rotT
  rw [zbl, ← zd4 hd, List.map_append]
  rfl
theorem frs_dbl (w : List Int) : ∀ (n t : Nat), frs U (w.map dbl) (2 * t) (2 * n) = (frs T w t n).map dbl
  | 0, _ => rfl
  | n + 1, t => by
    have e : 2 * (n + 1) = 2 * n + 1 + 1 := by omega
    have e1 : ((2 * t : Nat) : Int) = dbl t := by unfold dbl; omega
    have e2 : ((2 * t + 1 : Nat) : Int) = 2 * (t : Int) + 1 := by omega
    have e3 : 2 * t + 1 + 1 = 2 * (t + 1) := by omega
    rw [e]
    simp only [frs, e1, e2, zcj hd, z6a]
    rw [e3, frs_dbl w n (t + 1)]
    cases isFirst T w t <;> simp
def dbp (p : CP) : CP := (p.1.map dbl, p.2.map dbl)
omit hd in
theorem dbp_mem (q : List Int) (L : List CP) : q.map dbl ∈ (L.map dbp).map (·.1) ↔ q ∈ L.map (·.1) := by
  rw [List.map_map]
  constructor
  · intro h
    obtain ⟨p, hp, e⟩ := List.mem_map.1 h
    exact List.mem_map.2 ⟨p, hp, zcx e⟩
  · intro h
    obtain ⟨p, hp, e⟩ := List.mem_map.1 h
    exact List.mem_map.2 ⟨p, hp, by show p.1.map dbl = _; rw [e]⟩
theorem inn_dbl (m : Nat) (cur : CP) : ∀ (zs : List Int) (L : List CP), inn U (2 * m) (dbp cur) (zs.map dbl) (L.map dbp) = (inn T m cur zs L).map (·.map dbp)
  | [], L => rfl
  | a :: zs, L => by
    simp only [List.map_cons, inn]
    have e : rotT U (2 * m) (dbp cur).1 (dbl a) = (rotT T m cur.1 a).map dbl := zui hd m cur.1 a
    rw [e]
    by_cases h : rotT T m cur.1 a ∈ L.map (·.1)
    · rw [if_pos h, if_pos ((dbp_mem _ _).2 h), inn_dbl m cur zs L]
    · rw [if_neg h, if_neg (fun k => h ((dbp_mem _ _).1 k)), List.length_map]
      split
      · rfl
      · have := inn_dbl m cur zs (L ++ [(rotT T m cur.1 a, cur.2 ++ [a])])
        rw [← this, List.map_append]
        have e2 : dbp (rotT T m cur.1 a, cur.2 ++ [a]) = ((rotT T m cur.1 a).map dbl, (dbp cur).2 ++ [dbl a]) := by
          unfold dbp; rw [List.map_append]; rfl
        rw [List.map_cons, List.map_nil, e2]
theorem zi4 (m : Nat) : ∀ (f i : Nat) (L : List CP), outr U (2 * m) f i (L.map dbp) = (outr T m f i L).map (·.map dbp)
  | 0, _, _ => rfl
  | f + 1, i, L => by
    simp only [outr, List.length_map]
    by_cases h : i < L.length
    · rw [if_pos h, if_pos h]
      have e0 : (L.map dbp).getD i ([], []) = dbp (L.getD i ([], [])) := by
        rw [List.getD_eq_getElem?_getD, List.getD_eq_getElem?_getD, List.getElem?_map, List.getElem?_eq_getElem h]
        rfl
      have e1 : frs U (dbp (L.getD i ([], []))).1 (2 * 0) (2 * m) = (frs T (L.getD i ([], [])).1 0 m).map dbl := frs_dbl hd (L.getD i ([], [])).1 m 0
      have e2 := inn_dbl hd m (L.getD i ([], [])) (frs T (L.getD i ([], [])).1 0 m) L
      rw [e0]
      have e3 : frs U (dbp (L.getD i ([], []))).1 0 (2 * m) = (frs T (L.getD i ([], [])).1 0 m).map dbl := e1
      rw [e3, e2]
      cases inn T m (L.getD i ([], [])) (frs T (L.getD i ([], [])).1 0 m) L with
      | none => rfl
      | some L' => exact zi4 m f (i + 1) L'
    · rw [if_neg h, if_neg h]; rfl
theorem zm9 (m : Nat) (w : List Int) : conjs U (2 * m) (w.map dbl) = (conjs T m w).map (·.map dbp) := by
  unfold conjs
  have := zi4 hd m 1001 0 [(nform T m w, [])]
  rw [← this, zd4 hd]
  rfl
end
def dep1 {n : Nat} {d : List Int} (h : Al n d) : Dep Int where
  d := depZ n d
  sym := zfn h
  refl := fun a => by simp [depZ]
section
variable {n : Nat} {d : List Int} (h : Al n d)
theorem zfm (a b : Int) : (grp h).toDep.d (dbl a) (dbl b) = (dep1 h).d a b := by
  show depZ n d (dbl a / 2) (dbl b / 2) = depZ n d a b
  have e : ∀ x : Int, dbl x / 2 = x := fun x => by unfold dbl; omega
  rw [e, e]
theorem tab_one : Tab (dep1 h) n d where
  len := h.len
  small := by have := h.small; omega
  mask := fun a ha => ⟨dm d a, (h.mask a ha).2, (h.mask a ha).1, fun b hb => by
    show _ = depZ n d a b
    unfold depZ
    have hr : (0 : Int) ≤ (a : Int) ∧ (a : Int) < n ∧ (0 : Int) ≤ (b : Int) ∧ (b : Int) < n := by omega
    simp only [hr, and_self, decide_true, Bool.true_and, Int.toNat_natCast]
    by_cases e : a = b
    · rw [e, h.refl _ hb]; simp
    · have : decide ((a : Int) = (b : Int)) = false := by simp; omega
      rw [this, Bool.false_or]⟩
theorem zu0 (a : Int) {R : List Int} : push (grp h) (dbl a) (R.map dbl) = (a :: R).map dbl := by
  unfold push
  have e : (grp h).inv (dbl a) = 2 * a + 1 := by
    show opp (dbl a) = _
    unfold opp dbl
    split <;> omega
  rw [e, z6a]
  simp
theorem zg8 : ∀ (w R : List Int), fold (grp h) (w.map dbl) (R.map dbl) = (w.reverse ++ R).map dbl
  | [], R => rfl
  | a :: w, R => by
    rw [List.map_cons, zq, zu0, zg8 w (a :: R), List.reverse_cons, List.append_assoc]
    rfl
theorem gnf_pos (w : List Int) : gnf h (w.map dbl) = (nform (dep1 h) n w).map dbl := by
  unfold gnf
  have := zg8 h w []
  rw [List.map_nil] at this
  rw [this, List.append_nil, ← List.map_reverse, List.reverse_reverse]
  exact zd4 (zfm h) n w
theorem zmy (w : List Int) (s : Nat) : ends (grp h).toDep (w.map dbl) s = false := by
  unfold ends
  have key : ∀ x : Int, isFirst (grp h).toDep (w.map dbl) x = true → ∃ a, x = dbl a := fun x hx => by
    by_cases e : x % 2 = 0
    · exact ⟨x / 2, by unfold dbl; omega⟩
    · have : x = 2 * (x / 2) + 1 := by omega
      rw [this, z6a] at hx; cases hx
  cases h1 : isFirst (grp h).toDep (w.map dbl) s with
  | false => rfl
  | true =>
    obtain ⟨a, ha⟩ := key _ h1
    rw [ha, Bool.true_and, ← List.map_reverse]
    have e : opp (dbl a) = 2 * a + 1 := by
      unfold opp dbl
      split <;> omega
    rw [e, z6a]
end
theorem zm8 (w : List Int) (hw : ∀ x ∈ w, 0 ≤ x) : (w.map (· + 1)).map code = w.map dbl := by
  rw [List.map_map]
  apply List.map_congr_left
  intro x hx
  have := hw x hx
  show code (x + 1) = dbl x
  unfold code dbl
  split <;> omega
theorem zvq (w : List Int) (hw : ∀ x ∈ w, 0 ≤ x) : (w.map dbl).map sign = w.map (· + 1) := by
  rw [List.map_map]
  apply List.map_congr_left
  intro x hx
  have := hw x hx
  show sign (dbl x) = x + 1
  unfold sign dbl
  split <;> omega
end Go.PR.S

end

section
set_option maxRecDepth 20000
namespace Go.PR.S
open Go Go.PR Go.Proofs Gp
def wdOK (n : Int) (w : List Int) : Bool := decide (w.length ≤ 24) && w.all fun x => decide (0 ≤ x ∧ x ≤ n - 1)
theorem zv3 {n : Int} (hn : 0 ≤ n ∧ n ≤ 8) (d w : List Int) (hl : w.length ≤ B40) : Runs X F.z7g [alD n d, lD w] [] (boolR (wdOK n w)) := by
  by_cases h1 : w.length ≤ 24
  · have c1 := zdk w 0 (n - 1) hl
    have e : wdOK n w = (w.all fun x => decide (0 ≤ x ∧ x ≤ n - 1)) := by unfold wdOK; simp [h1]
    rw [e]
    exact zpt (by omega) (by omega) (by omega) c1
  · have e : wdOK n w = false := by unfold wdOK; simp [h1]
    rw [e]
    exact zpu (by omega)
theorem zdn {n : Int} (hn : 0 ≤ n ∧ n ≤ 8) (w : List Int) (hl : w.length ≤ B40) : Runs X F.z1b [iD n, lD w] [] (boolR (wdOK n w)) := by
  by_cases h1 : w.length ≤ 24
  · have hlp := z50 (f := F.z1b) (b := 0) (body := lb Tryz.f97 0) (N := w.length) (oF := zas) (oT := zat) (st := fun i => z4h n w i)
      (p := fun i => decide (0 ≤ w.getD i 0 ∧ w.getD i 0 ≤ n - 1)) (fun i hi hp Q hq => ?_) (fun i hi hp Q hq => ?_) (fun Q hq => ?_)
    · rw [z9l (l := w) (q := fun x => decide (0 ≤ x ∧ x ≤ n - 1))] at hlp
      have e : wdOK n w = (w.all fun x => decide (0 ≤ x ∧ x ≤ n - 1)) := by unfold wdOK; simp [h1]
      rw [e]
      cases hb : (w.all fun x => decide (0 ≤ x ∧ x ≤ n - 1)) with
      | true => rw [hb] at hlp; exact z10i (by omega) hlp
      | false => rw [hb] at hlp; exact z10h (by omega) hlp
    · have c1 := z7s (w.getD i 0) 0 (n - 1)
      apply z10k
      case hq => exact hq
      all_goals first | exact c1 | exact hp | (unfold B40 at hl; omega)
    · have c1 := z7s (w.getD i 0) 0 (n - 1)
      apply z10j
      case hq => exact hq
      all_goals first | exact c1 | exact hp | (unfold B40 at hl; omega)
    · apply z10l
      case hq => exact hq
      all_goals (unfold B40 at hl; omega)
  · have e : wdOK n w = false := by unfold wdOK; simp [h1]
    rw [e]
    exact z10g (by omega)
def wdCode (n : Int) (d : List Int) (ws : List (List Int)) : Int := if alOK n d then (if ws.all (wdOK n) then 0 else 2) else 1
theorem zvb (n : Int) (d w : List Int) (hd : d.length ≤ B40) (hw : w.length ≤ B40) : Runs X F.z2o [alD n d, lD w] [] (boolR (decide (wdCode n d [w] = 0))) := by
  have c1 := zdm n d hd
  unfold wdCode
  cases h1 : alOK n d with
  | false => rw [h1] at c1; simp; exact zzu c1 rfl
  | true =>
    rw [h1] at c1
    have c2 := zdn (alOK_n h1) w hw
    cases h2 : wdOK n w with
    | false => rw [h2] at c2; simp [h2]; exact zk2 c1 rfl c2
    | true => rw [h2] at c2; simp [h2]; exact zk2 c1 rfl c2
theorem ziw (n : Int) (d u v : List Int) (hd : d.length ≤ B40) (hu : u.length ≤ B40) (hv : v.length ≤ B40) : Runs X F.z3t [alD n d, lD u, lD v] [] (intR (wdCode n d [u, v])) := by
  have c1 := zdm n d hd
  unfold wdCode
  cases h1 : alOK n d with
  | false => rw [h1] at c1; exact zzf c1 rfl
  | true =>
    rw [h1] at c1
    have c2 := zdn (alOK_n h1) u hu
    have c3 := zdn (alOK_n h1) v hv
    cases h2 : wdOK n u with
    | false => rw [h2] at c2; simp [h2]; exact zzg c1 rfl c2 rfl
    | true =>
      rw [h2] at c2
      cases h3 : wdOK n v with
      | false => rw [h3] at c3; simp [h2, h3]; exact zzh c1 rfl c2 rfl c3 rfl
      | true => rw [h3] at c3; simp [h2, h3]; exact zzi c1 rfl c2 rfl c3 rfl
theorem z9r (n : Int) (d : List Int) (ws : List (List Int)) (hd : d.length ≤ B40) (hs : ws.length ≤ B40) (hw : ∀ w ∈ ws, w.length ≤ B40) : Runs X F.z13 [alD n d, .imm2 .i64 ws] [] (intR (wdCode n d ws)) := by
  have c1 := zin n d hd
  unfold wdCode
  cases h1 : alOK n d with
  | false => rw [h1] at c1; exact zp1 c1 rfl
  | true =>
    rw [h1] at c1
    have hn := alOK_n h1
    have c2 : ∀ i, i < ws.length → Runs X F.z1u [lD (ws.getD i []), .pim [iD n, lD d]] [] (boolR (!wdOK n (ws.getD i []))) := fun i hi => by
      refine zp5 (zv3 hn d _ ?_)
      rw [List.getD_eq_getElem?_getD, List.getElem?_eq_getElem hi]
      exact hw _ (List.getElem_mem hi)
    have hall : ws.all (wdOK n) = (List.range ws.length).all fun i => wdOK n (ws.getD i []) := by
      rw [Bool.eq_iff_iff, List.all_eq_true, List.all_eq_true]
      constructor
      · intro h i hi
        have hi := List.mem_range.1 hi
        rw [List.getD_eq_getElem?_getD, List.getElem?_eq_getElem hi]
        exact h _ (List.getElem_mem hi)
      · intro h x hx
        obtain ⟨i, hi, rfl⟩ := List.getElem_of_mem hx
        have := h i (List.mem_range.2 hi)
        rwa [List.getD_eq_getElem?_getD, List.getElem?_eq_getElem hi] at this
    rcases z8f (q := fun i => wdOK n (ws.getD i [])) ws.length with h | ⟨k, hk1, hk2, hk3⟩
    · have ht : ws.all (wdOK n) = true := by rw [hall]; exact List.all_eq_true.2 fun i hi => h i (List.mem_range.1 hi)
      have hx : Runs X F.zm [.imm2 .i64 ws, .fn F.z1u [.pim [iD n, lD d]]] [] (intR (-1)) := by
        refine zwn (loop_to (N := ws.length) (st := fun i => z3j ws n d i) (fun i hi Q hq => ?_) (fun Q hq => ?_))
        · have c := c2 i hi
          have e := h i hi
          apply zjk
          case hq => exact hq
          all_goals first | exact c | (rw [e]; rfl) | (unfold B40 at hs; omega)
        · apply zwp
          case hq => exact hq
          all_goals (unfold B40 at hs; omega)
      have hc := zjd hx
      rw [ht]
      exact zp3 c1 rfl hc (by simp)
    · have ht : ws.all (wdOK n) = false := by
        cases hh : ws.all (wdOK n) with
        | false => rfl
        | true =>
          rw [hall] at hh
          have := List.all_eq_true.1 hh k (List.mem_range.2 hk1)
          rw [hk2] at this; cases this
      have hx : Runs X F.zm [.imm2 .i64 ws, .fn F.z1u [.pim [iD n, lD d]]] [] (intR k) := by
        refine zwm (loop_to (N := k) (st := fun i => z3j ws n d i) (fun i hi Q hq => ?_) (fun Q hq => ?_))
        · have c := c2 i (by omega)
          have e := hk3 i hi
          apply zjk
          case hq => exact hq
          all_goals first | exact c | (rw [e]; rfl) | (unfold B40 at hs; omega)
        · have c := c2 k hk1
          apply zwo
          case hq => exact hq
          all_goals first | exact c | (rw [hk2]; rfl) | (unfold B40 at hs; omega)
      have hc := zjd hx
      rw [ht]
      exact zp2 c1 rfl hc (by simp)
theorem wd_one {n : Int} {d w : List Int} (h : wdCode n d [w] = 0) : ∃ (N : Nat) (ha : Al N d), n = (N : Int) ∧ alOK N d = true ∧ w.length ≤ 24 ∧ Wd N w := by
  unfold wdCode at h
  cases h1 : alOK n d with
  | false => rw [h1] at h; simp at h
  | true =>
    rw [h1] at h
    obtain ⟨e, ha⟩ := Al.of h1
    have h2 : wdOK n w = true := by
      cases hh : wdOK n w with
      | true => rfl
      | false => simp [hh] at h
    unfold wdOK at h2
    simp only [Bool.and_eq_true, decide_eq_true_eq, List.all_eq_true] at h2
    refine ⟨n.toNat, ha, e, by rw [← e]; exact h1, h2.1, fun x hx => ?_⟩
    have := h2.2 x hx
    omega
theorem wd_two {n : Int} {d u v : List Int} (h : wdCode n d [u, v] = 0) : wdCode n d [u] = 0 ∧ wdCode n d [v] = 0 := by
  unfold wdCode at *
  cases h1 : alOK n d with
  | false => rw [h1] at h; simp at h
  | true =>
    rw [h1] at h
    cases h2 : wdOK n u <;> cases h3 : wdOK n v <;> simp [h2, h3] at h ⊢
theorem z121 (n : Int) (d : List Int) (ws : List (List Int)) : wdCode n d ws = 0 ∨ wdCode n d ws = 1 ∨ wdCode n d ws = 2 := by
  unfold wdCode
  split
  · split
    · exact .inl rfl
    · exact .inr (.inr rfl)
  · exact .inr (.inl rfl)
def conjB (T : Dep Int) (m : Nat) (u v : List Int) : Bool := match conjs T m u with
  | none => false
  | some L => decide (nform T m v ∈ L.map (·.1))
def conjE (T : Dep Int) (m : Nat) (u : List Int) : Int := match conjs T m u with
  | none => 3
  | some _ => 0
theorem zul {N : Nat} {d : List Int} (ha : Al N d) {u v : List Int} (h0 : wdCode N d [u, v] = 0) (hd : d.length ≤ B40) :
    Runs X F.z3o [alD N d, lD u, lD v] [] (pairB (conjB (dep1 ha) N u v) (conjE (dep1 ha) N u)) ∧ Runs X F.z2v [alD N d, lD u, lD v] [] (pairB (conjB (dep1 ha) N u v) (conjE (dep1 ha) N u)) := by
  obtain ⟨hu0, hv0⟩ := wd_two h0
  obtain ⟨N1, _, e1, _, hul, huW⟩ := wd_one hu0
  obtain ⟨N2, _, e2, _, hvl, hvW⟩ := wd_one hv0
  obtain rfl : N = N1 := by omega
  obtain rfl : N = N2 := by omega
  have hu : u.length ≤ B40 := by unfold B40; omega
  have hv : v.length ≤ B40 := by unfold B40; omega
  have c1 := ziw N d u v hd hu hv
  have c2 : Runs X F.z13 [alD N d, .imm2 .i64 ([u] ++ [v])] [] (intR (wdCode N d [u, v])) := z9r N d [u, v] hd (by simp [B40]) (by simp [hu, hv])
  have ht := tab_one ha
  have k1 := z6j ht hvW hv
  have k2 := z3g ht hvW hv
  obtain ⟨m1, m2⟩ := zip ht huW hul
  obtain ⟨l1, l2⟩ := zve ht huW hul
  have hnl : (nform (dep1 ha) N v).length ≤ B40 := by rw [z2k hvW]; exact hv
  unfold conjB conjE
  cases hc : conjs (dep1 ha) N u with
  | none =>
    obtain ⟨ps, g1, g2⟩ := m2 hc
    exact ⟨zxf c1 h0 (l2 hc) rfl, zny c2 h0 g2 (by omega)⟩
  | some L =>
    obtain ⟨hI, g2⟩ := m1 L hc
    obtain ⟨far, g3⟩ := l1 L hc
    have hle := hI.le
    have hw : ∀ p ∈ L, p.1.length ≤ B40 := fun p hp => by rw [hI.len p hp]; exact hu
    have i1 := zis L (nform (dep1 ha) N v) hle hw
    have i2 := zix (L.map (·.1)) (nform (dep1 ha) N v) (by rw [List.length_map]; unfold B40; omega) (fun x hx => by obtain ⟨p, hp, rfl⟩ := List.mem_map.1 hx; exact hw p hp)
    have hlen : ¬ ((L.map rc).length : Int) > 1000 := by rw [List.length_map]; omega
    by_cases hm : nform (dep1 ha) N v ∈ L.map (·.1)
    · rw [if_pos hm] at i1 i2
      have hi := List.idxOf_lt_length_iff.2 hm
      rw [List.length_map] at hi
      have x1 := zjv c1 h0 g3 rfl k1 i2
      rw [decide_eq_true (by omega)] at x1
      dsimp only
      rw [decide_eq_true hm]
      exact ⟨x1, zo0 c2 h0 g2 hlen k2 i1 (by omega) (by rw [List.length_map]; omega)⟩
    · rw [if_neg hm] at i1 i2
      have x1 := zjv c1 h0 g3 rfl k1 i2
      rw [decide_eq_false (by omega)] at x1
      dsimp only
      rw [decide_eq_false hm]
      exact ⟨x1, znz c2 h0 g2 hlen k2 i1 (by omega)⟩
theorem zum (n : Int) (d u v : List Int) (hd : d.length ≤ B40) (hu : u.length ≤ B40) (hv : v.length ≤ B40) (h0 : ¬ wdCode n d [u, v] = 0) :
    Runs X F.z3o [alD n d, lD u, lD v] [] (pairB false (wdCode n d [u, v])) ∧ Runs X F.z2v [alD n d, lD u, lD v] [] (pairB false (wdCode n d [u, v])) := by
  have c1 := ziw n d u v hd hu hv
  have c2 : Runs X F.z13 [alD n d, .imm2 .i64 ([u] ++ [v])] [] (intR (wdCode n d [u, v])) := z9r n d [u, v] hd (by simp [B40]) (by simp [hu, hv])
  exact ⟨zxe c1 h0, znx c2 h0⟩
theorem zuu {N : Nat} {d : List Int} (ha : Al N d) {w : List Int} (h0 : wdCode N d [w] = 0) (hd : d.length ≤ B40) :
    Runs X F.z8o [alD N d, lD w] [] ⟨.tup [.rsl 600000 0 (nform (dep1 ha) N w).length, .int .i64 0], [], [⟨true, .ints .i64 (nform (dep1 ha) N w)⟩]⟩ := by
  obtain ⟨N1, _, e1, _, hul, huW⟩ := wd_one h0
  obtain rfl : N = N1 := by omega
  have hu : w.length ≤ B40 := by unfold B40; omega
  have c2 : Runs X F.z13 [alD N d, .imm2 .i64 [w]] [] (intR (wdCode N d [w])) := z9r N d [w] hd (by simp [B40]) (by simp [hu])
  exact zos c2 h0 (z3g (tab_one ha) huW hu)
theorem zun {N : Nat} {d : List Int} (ha : Al N d) {u v : List Int} (h0 : wdCode N d [u, v] = 0) (hd : d.length ≤ B40) :
    Runs X F.z8k [alD N d, lD u, lD v] [] (pairB (decide (nform (dep1 ha) N u = nform (dep1 ha) N v)) 0) := by
  obtain ⟨hu0, hv0⟩ := wd_two h0
  obtain ⟨N1, _, e1, _, hul, huW⟩ := wd_one hu0
  obtain ⟨N2, _, e2, _, hvl, hvW⟩ := wd_one hv0
  obtain rfl : N = N1 := by omega
  obtain rfl : N = N2 := by omega
  have hu : u.length ≤ B40 := by unfold B40; omega
  have hv : v.length ≤ B40 := by unfold B40; omega
  have c2 : Runs X F.z13 [alD N d, .imm2 .i64 ([u] ++ [v])] [] (intR (wdCode N d [u, v])) := z9r N d [u, v] hd (by simp [B40]) (by simp [hu, hv])
  exact zo7 c2 h0 (zvi (tab_one ha) huW hvW hu hv)
theorem zdq (w : List Int) (hl : w.length ≤ B40) (hw : ∀ x ∈ w, -1000 ≤ x ∧ x ≤ 1099511627776) : Runs X F.z2j [lD w] [] (rowR (w.map (· + 1))) := by
  refine zsg (r3az := w.map (· + 1)) ?_
  have := loop_to (f := F.z2j) (b := 0) (body := lb Tryz.f20 0) (N := w.length) (o := z9d (w.map (· + 1))) (st := fun i => z6c w i ((w.take i).map (· + 1))) (fun i hi Q hq => ?_) (fun Q hq => ?_)
  · exact this
  · have hx := hw _ (List.getElem_mem hi)
    apply zsh
    case hq =>
      have e : (w.take i).map (· + 1) ++ [w.getD i 0 + 1] = (w.take (i + 1)).map (· + 1) := by
        rw [List.take_succ_eq_append_getElem hi, List.map_append, getD_lt hi]; rfl
      rw [e]; exact hq
    all_goals first | (rw [getD_lt hi]; omega) | (simp only [List.length_map, List.length_take]; unfold B40 at hl; omega) | (unfold B40 at hl; omega)
  · apply zsi
    case hq => rw [List.take_of_length_le (Nat.le_refl _)]; exact hq
    all_goals omega
end Go.PR.S

end
