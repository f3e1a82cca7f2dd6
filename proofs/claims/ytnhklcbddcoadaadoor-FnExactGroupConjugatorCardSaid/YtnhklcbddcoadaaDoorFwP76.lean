/- The second search of GroupConjugator: it goes over the same list and ends at the word that is looked for. Plain part. -/
import Derived.Test.YtnhklcbddcoadaaDoorFwP72
import Derived.Test.YtnhklcbddcoadaaDoorFwP42
import Derived.Test.YtnhklcbddcoadaaDoorFwG39
import Derived.Test.YtnhklcbddcoadaaDoorFwP73
set_option linter.unusedVariables false
set_option linter.unusedSimpArgs false
set_option linter.unusedSectionVars false
section
set_option maxRecDepth 20000
namespace Gp
section
variable {T : Dep Int} {m : Nat}
def Apart (L : List CP) : Prop := (L.map (·.1)).Nodup
end
end Gp
namespace Go.PR.S
open Go Go.PR Go.Proofs Gp
theorem zfh {q : List Int} : ∀ {l : List (List Int)} {i : Nat} (hi : i < l.length), l[i] = q → (∀ j (hj : j < l.length), j < i → l[j] ≠ q) → l.idxOf q = i
  | [], i, hi, _, _ => by simp at hi
  | x :: l, 0, _, he, _ => by simp at he; rw [he, List.idxOf_cons_self]
  | x :: l, i + 1, hi, he, hb => by
    have h0 : x ≠ q := hb 0 (by simp) (by omega)
    have ih := zfh (l := l) (i := i) (by simpa using hi) (by simpa using he) fun j hj h => by
      have := hb (j + 1) (by simp; omega) (by omega)
      simpa using this
    have h1 : (x == q) = false := by simpa using h0
    rw [List.idxOf_cons, h1, ih]; rfl
section
variable {T : Dep Int} {m : Nat} {t : List Int}
theorem fst_at {L : List CP} {i : Nat} (hi : i < L.length) : (L.map (·.1)).getD (0 + i) [] = (L.getD i ([], [])).1 := by
  rw [Nat.zero_add, List.getD_eq_getElem?_getD, List.getD_eq_getElem?_getD, List.getElem?_map, List.getElem?_eq_getElem hi]; rfl
theorem snd_at {L : List CP} {i : Nat} (hi : i < L.length) : (L.map (·.2)).getD (0 + i) [] = (L.getD i ([], [])).2 := by
  rw [Nat.zero_add, List.getD_eq_getElem?_getD, List.getD_eq_getElem?_getD, List.getElem?_map, List.getElem?_eq_getElem hi]; rfl
theorem z9b (ht : Tab T m t) {len : Nat} (hlen : len ≤ 24) {cur : CP} {i : Nat} (f q g : List Int) : ∀ (n tt : Nat) (L : List CP), tt + n = m → CInv m len L → i < L.length → L.getD i ([], []) = cur →
    ∀ L', inn T m cur (frs T cur.1 tt n) L = some L' → WL F.zj 2 Tryd.f26 1 (z28 m t f q g i tt (L.map (·.1)) (L.map (·.2))) (z9o m t f q g i (L'.map (·.1)) (L'.map (·.2)))
  | 0, tt, L, e, hI, hi, hc, L', h => by
    simp only [frs, inn] at h
    cases h
    exact zve (by omega) rfl
  | n + 1, tt, L, e, hI, hi, hc, L', h => by
    have hsm := ht.small
    have hcm : cur ∈ L := by rw [← hc]; exact z3q hi
    have hcw := hI.wd cur hcm
    have hcl := hI.len cur hcm
    have hL := hI.le
    have hbl := hI.bl cur hcm
    have hg1 : (L.map (·.1)).getD (0 + i) [] = cur.1 := by rw [fst_at hi, hc]
    have hg2 : (L.map (·.2)).getD (0 + i) [] = cur.2 := by rw [snd_at hi, hc]
    have k1 := zhu ht (w := cur.1) (a := (tt : Int)) hcw (by omega) (by omega)
    by_cases hf : isFirst T cur.1 tt = true
    · rw [if_pos hf] at k1
      have ham := zx hf
      obtain ⟨r1, r2⟩ := z91 (T := T) hcw ham
      have hfr : frs T cur.1 tt (n + 1) = (tt : Int) :: frs T cur.1 (tt + 1) n := by simp only [frs, if_pos hf]
      have k2 := zco (L.map (·.1)) (rotT T m cur.1 tt) (by rw [List.length_map]; unfold B40; omega) (fun u hu => by
        obtain ⟨p, hp, rfl⟩ := List.mem_map.1 hu
        have := hI.len p hp
        unfold B40; omega)
      have k1' : Runs X F.z1n [alD m t, lD ((L.map (·.1)).getD (0 + i) []), iD tt] [] ⟨.tup [.rsl 600000 0 (rotT T m cur.1 tt).length, .bool true], [], [⟨true, .ints .i64 (rotT T m cur.1 tt)⟩]⟩ := by rw [hg1]; exact k1
      rw [hfr] at h
      simp only [inn] at h
      by_cases hmem : rotT T m cur.1 tt ∈ L.map (·.1)
      · rw [if_pos hmem] at k2 h
        exact zvc (by omega) (by rw [List.length_map]; omega) k1' rfl k2 (by omega) (by omega) (z9b ht hlen (cur := cur) (i := i) f q g n (tt + 1) L (by omega) hI hi hc L' h)
      · rw [if_neg hmem] at k2 h
        split at h
        case isTrue => cases h
        rename_i hover
        have hI' := hI.push (T := T) hcm ham hover
        have k3 : Runs X F.z2f [lD ((L.map (·.2)).getD (0 + i) [])] [] (rowR cur.2) := by rw [hg2]; exact z61 cur.2 (by unfold B40; omega)
        have eL : (L ++ [(rotT T m cur.1 tt, cur.2 ++ [(tt : Int)])]).length = L.length + 1 := by simp
        have ih := z9b ht hlen (cur := cur) (i := i) f q g n (tt + 1) _ (by omega) hI' (by rw [eL]; omega) (by rw [← hc, List.getD_eq_getElem?_getD, List.getD_eq_getElem?_getD, List.getElem?_append_left hi]) L' h
        rw [List.map_append, List.map_append] at ih
        exact zvb (by omega) (by rw [List.length_map]; omega) k1' rfl k2 (by omega) (by rw [List.length_map]; omega) (by rw [List.length_map]; omega) k3 (by omega) (by rw [List.length_map]; omega) (by omega) ih
    · rw [if_neg hf] at k1
      have k1' : Runs X F.z1n [alD m t, lD ((L.map (·.1)).getD (0 + i) []), iD tt] [] ⟨.tup [.rsl 600000 0 ([] : List Int).length, .bool false], [], [⟨true, .ints .i64 []⟩]⟩ := by rw [hg1]; exact k1
      have hfr : frs T cur.1 tt (n + 1) = frs T cur.1 (tt + 1) n := by simp only [frs, if_neg hf]
      rw [hfr] at h
      exact zvd (by omega) (by rw [List.length_map]; omega) k1' rfl (by omega) (z9b ht hlen (cur := cur) (i := i) f q g n (tt + 1) L (by omega) hI hi hc L' h)
theorem zi8 (ht : Tab T m t) {len : Nat} (hlen : len ≤ 24) (f q g z : List Int) (target : OutL)
    (hend : ∀ (i : Nat) (L : List CP), CInv m len L → i < L.length → L.getD i ([], []) = (q, z) → WL F.zj 0 Tryd.f26 0 (z3c m t f q g i (L.map (·.1)) (L.map (·.2))) target) :
    ∀ (fl i : Nat) (L Lf : List CP), CInv m len L → 1001 ≤ i + fl → i ≤ 1001 → (∀ j, j < L.length → j < i → (L.getD j ([], [])).1 ≠ q) → outr T m fl i L = some Lf → q ∈ Lf.map (·.1) → (Lf.getD ((Lf.map (·.1)).idxOf q) ([], [])).2 = z →
      WL F.zj 0 Tryd.f26 0 (z3c m t f q g i (L.map (·.1)) (L.map (·.2))) target
  | fl, i, L, Lf, hI, hf, hi, hb, ho, hq, hz => by
    have hL := hI.le
    by_cases hlt : i < L.length
    · by_cases he : (L.getD i ([], [])).1 = q
      · obtain ⟨R, rfl⟩ := zh3 ho
        refine hend i L hI hlt ?_
        have hx : ((L ++ R).map (·.1)).idxOf q = i := by
          have hl2 : i < ((L ++ R).map (·.1)).length := by rw [List.length_map, List.length_append]; omega
          refine zfh hl2 ?_ fun j hj hji => ?_
          · rw [List.getElem_map, List.getElem_append_left hlt, ← he, List.getD_eq_getElem?_getD, List.getElem?_eq_getElem hlt]
            rfl
          · have hjl : j < L.length := by omega
            have := hb j hjl hji
            rw [List.getElem_map, List.getElem_append_left hjl]
            rw [List.getD_eq_getElem?_getD, List.getElem?_eq_getElem hjl] at this
            exact this
        rw [hx, List.getD_eq_getElem?_getD, List.getElem?_append_left hlt, ← List.getD_eq_getElem?_getD] at hz
        rw [← hz, ← he]
      · cases fl with
        | zero => omega
        | succ fl =>
          have hcm := z3q hlt
          generalize hc : L.getD i ([], []) = cur at hcm he
          have ham : ∀ a ∈ frs T cur.1 0 m, a ∈ cur.1 := fun a ha => by
            obtain ⟨k, rfl, _, _, hk⟩ := frs_mem ha
            exact zx hk
          have hcl := hI.len cur hcm
          simp only [outr, if_pos hlt, hc] at ho
          cases hin : inn T m cur (frs T cur.1 0 m) L with
          | none => rw [hin] at ho; cases ho
          | some L1 =>
            rw [hin] at ho
            have hI' := inn_inv (T := T) hI hcm ham hin
            have hw := z9b ht hlen (cur := cur) (i := i) f q g m 0 L (by omega) hI hlt hc L1 hin
            obtain ⟨R, hR⟩ := z8b hin
            have c26 : Runs X F.z11 [lD ((L.map (·.1)).getD (0 + i) []), lD q] [] (boolR false) := by
              rw [fst_at hlt, hc]
              have := zcn cur.1 q (by rw [hcl]; unfold B40; omega)
              rwa [decide_eq_false he] at this
            refine zva (by rw [List.length_map]; omega) c26 rfl hw (by omega) ?_
            refine zi8 ht hlen f q g z target hend fl (i + 1) L1 Lf hI' (by omega) (by omega) (fun j hj hji => ?_) ho hq hz
            have hjl : j < L.length := by omega
            rw [hR, List.getD_eq_getElem?_getD, List.getElem?_append_left hjl, ← List.getD_eq_getElem?_getD]
            by_cases hj2 : j = i
            · rw [hj2, hc]; exact he
            · exact hb j hjl (by omega)
    · exfalso
      have : Lf = L := by
        cases fl with
        | zero => simp only [outr] at ho; cases ho; rfl
        | succ fl => simp only [outr, if_neg hlt] at ho; cases ho; rfl
      subst this
      obtain ⟨p, hp, hpq⟩ := List.mem_map.1 hq
      obtain ⟨j, hj, hjp⟩ := List.mem_iff_getElem.1 hp
      refine hb j hj (by omega) ?_
      rw [List.getD_eq_getElem?_getD, List.getElem?_eq_getElem hj]
      show Lf[j].1 = q
      rw [hjp, hpq]
end
end Go.PR.S

end

section
set_option maxRecDepth 20000
namespace Go.PR.S
open Go Go.PR Go.Proofs Gp
theorem zl2 {N : Nat} {d : List Int} (ha : Al N d) {p : List Int} (hp : Wd (2 * N) p) (h : gnf ha p = p) : nform (grp ha).toDep (2 * N) p = p := by
  have h1 := gnf_len ha hp
  rw [h] at h1
  have h2 := zbe ha hp h1.symm
  rw [h] at h2
  exact h2.symm
theorem zsr (n : Int) (d u v : List Int) (hd : d.length ≤ B40) (hu : u.length ≤ B40) (hv : v.length ≤ B40) :
    ∃ xs r, xs.length ≤ B40 ∧ Runs X F.zj [alD n d, lD u, lD v] [] (pairR xs r) ∧ Runs X F.z3r [alD n d, lD u, lD v] [] (pairR xs r) := by
  have c1 := ztd n d u v hd hu hv
  have c2 : Runs X F.z1p [alD n d, .imm2 .i64 ([u] ++ [v])] [] (intR (sgCode n d [u, v])) := zsw n d [u, v] hd (by simp [B40]) (by simp [hu, hv])
  by_cases h0 : sgCode n d [u, v] = 0
  · obtain ⟨hu0, hv0⟩ := sg_two h0
    obtain ⟨N, ha, rfl, hN, _⟩ := sg_one hu0
    obtain ⟨_, hul, hub, huz, huW⟩ := zi7 ha hu0
    obtain ⟨_, hvl, hvb, hvz, hvW⟩ := zi7 ha hv0
    have huc : (u.map code).length ≤ 24 := by simpa using hul
    have hvc : (v.map code).length ≤ 24 := by simpa using hvl
    have ht := tab_dbl ha
    obtain ⟨p, f, p1, p2, p3, p4, p5, p6, p7, p8, r1, r2⟩ := zhq ha huW huc
    obtain ⟨q, g, q1, q2, q3, q4, q5, q6, q7, q8, s1, s2⟩ := zhq ha hvW hvc
    have hgu := gnf_le ha huW
    have hgv := gnf_le ha hvW
    have k1 := zte ha
    have k2 := zhv hub huz hu
    have k3 := z97 ha huW (by unfold B40; omega)
    have k4 := zhv hvb hvz hv
    have k5 := z97 ha hvW (by unfold B40; omega)
    have k6 := ztj ha
    have k7 := zhp hub hu
    have k8 := zhp hvb hv
    have hpl : p.length ≤ 24 := by omega
    have hql : q.length ≤ 24 := by omega
    have hfl : f.length ≤ 24 := by omega
    have hgl : g.length ≤ 24 := by omega
    obtain ⟨m1, m2⟩ := zsy ht p1 hpl
    obtain ⟨l1, l2⟩ := ztb ht p1 hpl
    cases hc : conjs (grp ha).toDep (2 * N) p with
    | none =>
      obtain ⟨ps, g1, g2⟩ := m2 hc
      exact ⟨[], 3, by simp [B40], zit (zv5 c1 h0 k1 k2 k3 r1 k4 k5 s1 (l2 hc) rfl) (by omega), zmm c2 h0 k6 k7 r2 k8 s2 g2 (by omega)⟩
    | some L =>
      obtain ⟨hI, g2⟩ := m1 L hc
      obtain ⟨far, g3⟩ := l1 L hc
      have hle := hI.le
      have hw : ∀ p ∈ L, p.1.length ≤ B40 := fun p hp => by rw [hI.len p hp]; unfold B40; omega
      have i1 := zt4 L q hle hw
      have i2 := zco (L.map (·.1)) q (by rw [List.length_map]; unfold B40; omega) (fun x hx => by obtain ⟨p, hp, rfl⟩ := List.mem_map.1 hx; exact hw p hp)
      have hlen : ¬ ((L.map rc).length : Int) > 1000 := by rw [List.length_map]; omega
      by_cases hm : q ∈ L.map (·.1)
      · rw [if_pos hm] at i1 i2
        have hi := List.idxOf_lt_length_iff.2 hm
        rw [List.length_map] at hi
        have x1 := zis c1 h0 k1 k2 k3 r1 k4 k5 s1 g3 rfl i2
        rw [decide_eq_true (by omega)] at x1
        have hzm := z3q hi
        have hat := rc_at hi
        generalize hz : (L.getD ((L.map (·.1)).idxOf q) ([], [])) = zz at hzm hat
        have hbl := hI.bl zz hzm
        have hbw := hI.bwd zz hzm
        have hgb : ((g.map opp).reverse).length = g.length := by simp
        have hgW := Wd_opps q2
        have hall : Wd (2 * N) (f ++ zz.2 ++ (g.map opp).reverse) := zdl (zdl p2 hbw) hgW
        have hallL : (f ++ zz.2 ++ (g.map opp).reverse).length ≤ 2000 := by
          rw [List.length_append, List.length_append, hgb]; omega
        have e1 := zt5 hN q2 (by unfold B40; omega)
        have e2 := z61 f (by unfold B40; omega)
        have e3 := ztc hN q2 (by unfold B40; omega)
        have kc := zhl [f, zz.2, (g.map opp).reverse] (by simp [B40]) (by
          simp only [List.flatten_cons, List.flatten_nil, List.append_nil]
          rw [← List.append_assoc]; unfold B40; omega)
        have ef : [f, zz.2, (g.map opp).reverse].flatten = f ++ zz.2 ++ (g.map opp).reverse := by simp
        rw [ef] at kc
        have kc' : Runs X F.za [.imm2 .i64 ([f] ++ [(rcdAt (L.map rc) (((L.map (·.1)).idxOf q : Nat) : Int).toNat).ls.tail.headD []] ++ [(g.map opp).reverse])] [] (rowR (f ++ zz.2 ++ (g.map opp).reverse)) := by
          rw [Int.toNat_natCast, hat]; exact kc
        have kg := z94 ha hall (by unfold B40; omega)
        have kr := z97 ha hall (by unfold B40; omega)
        have gW := gnf_Wd ha hall
        have hg2 := gnf_le ha hall
        have ke := zt1 hN gW (by unfold B40; omega)
        have ko := ztf hN gW (by unfold B40; omega)
        have hI0 := CInv.first (T := (grp ha).toDep) p1
        have e0 := zl2 ha p1 p3
        rw [e0] at hI0
        have hc' : outr (grp ha).toDep (2 * N) 1001 0 [(p, [])] = some L := by
          have := hc; unfold conjs at this; rwa [e0] at this
        generalize hR : gnf ha (f ++ zz.2 ++ (g.map opp).reverse) = R at *
        have hsearch : ∀ (tt : Nat) (ys : List Int), (∀ (i : Nat) (L' : List CP), CInv (2 * N) p.length L' → i < L'.length → L'.getD i ([], []) = (q, zz.2) → WL F.zj 0 Tryd.f26 0 (z3c ((2 * N : Nat) : Int) (dblL N d) f q g i (L'.map (·.1)) (L'.map (·.2))) (z50 tt ys)) →
            Runs X F.zj [alD N d, lD u, lD v] [] (pairR ys tt) := by
          intro tt ys hend
          have hs := zi8 ht hpl f q g zz.2 (z50 tt ys) hend 1001 0 [(p, [])] L hI0 (by omega) (by omega) (fun j _ h => by omega) hc' hm (by rw [hz])
          exact zv7 x1 rfl rfl k1 k2 k3 r1 k4 k5 s1 hs
        have hpre : ∀ (i : Nat) (L' : List CP), CInv (2 * N) p.length L' → i < L'.length → L'.getD i ([], []) = (q, zz.2) →
            Runs X F.z11 [lD ((L'.map (·.1)).getD (0 + i) []), lD q] [] (boolR true) ∧ (L'.map (·.2)).getD (0 + i) [] = zz.2 := by
          intro i L' _ hi' he
          rw [fst_at hi', snd_at hi', he]
          have := zcn q q (by unfold B40; omega)
          rw [decide_eq_true rfl] at this
          exact ⟨this, rfl⟩
        by_cases h24 : R.length ≤ 24
        · rw [if_pos h24] at ke
          refine ⟨R.map sign, 0, by rw [List.length_map]; unfold B40; omega, ?_, zfk c2 h0 k6 k7 r2 k8 s2 g2 hlen i1 (by omega) (by rw [List.length_map]; omega) k6 e1 kc' kg ke⟩
          refine hsearch 0 _ fun i L' hI' hi' he => ?_
          obtain ⟨y1, y2⟩ := hpre i L' hI' hi' he
          have kr' : Runs X F.z9 [alD ((2 * N : Nat) : Int) (dblL N d), lD (f ++ (L'.map (·.2)).getD (0 + i) [] ++ (g.map opp).reverse)] [] (rowR R) := by rw [y2]; exact kr
          exact zv9 (by rw [List.length_map]; omega) y1 rfl e2 (by rw [List.length_map]; omega) (by rw [y2]; omega) e3 (by rw [y2, List.length_append, hgb]; omega) kr' (by omega) ko rfl
        · rw [if_neg h24] at ke
          refine ⟨[], 3, by simp [B40], ?_, zfk c2 h0 k6 k7 r2 k8 s2 g2 hlen i1 (by omega) (by rw [List.length_map]; omega) k6 e1 kc' kg ke⟩
          refine hsearch 3 _ fun i L' hI' hi' he => ?_
          obtain ⟨y1, y2⟩ := hpre i L' hI' hi' he
          have kr' : Runs X F.z9 [alD ((2 * N : Nat) : Int) (dblL N d), lD (f ++ (L'.map (·.2)).getD (0 + i) [] ++ (g.map opp).reverse)] [] (rowR R) := by rw [y2]; exact kr
          exact zv8 (by rw [List.length_map]; omega) y1 rfl e2 (by rw [List.length_map]; omega) (by rw [y2]; omega) e3 (by rw [y2, List.length_append, hgb]; omega) kr' (by omega) rfl
      · rw [if_neg hm] at i1 i2
        have x1 := zis c1 h0 k1 k2 k3 r1 k4 k5 s1 g3 rfl i2
        rw [decide_eq_false (by omega)] at x1
        exact ⟨[], 4, by simp [B40], zv6 x1 rfl rfl, zmn c2 h0 k6 k7 r2 k8 s2 g2 hlen i1 (by omega)⟩
  · exact ⟨[], _, by simp [B40], zit (zv4 c1 h0) h0, zml c2 h0⟩
end Go.PR.S

end
