/- The normal form in the group against equality in the group; leaving letters out. -/
import Derived.Test.YtnhklcbddcoadaaGreatDoorFwP16
import Derived.Test.YtnhklcbddcoadaaGreatDoorGrK
import Derived.Test.YtnhklcbddcoadaaGreatDoorFwP21
set_option linter.unusedVariables false
set_option linter.unusedSimpArgs false
set_option linter.unusedSectionVars false
section
set_option maxRecDepth 20000
namespace Go.PR.S
open Go Go.PR Go.Proofs Gp
section
variable {N : Nat} {d : List Int}
theorem gnf_geq (h : Al N d) {u v : List Int} (hu : Wd (2 * N) u) (hv : Wd (2 * N) v) : gnf h u = gnf h v ↔ geq (grp h) u v := by
 unfold gnf geq
 rw [zuq (fold_Wd hu) (fold_Wd hv)]
 constructor
 · intro hh
   have := hh.reverse
   simpa using this
 · intro hh; exact hh.reverse
theorem geq_gnf (h : Al N d) {u : List Int} (hu : Wd (2 * N) u) : geq (grp h) (gnf h u) u := by
 unfold gnf
 exact (z28 (z2t (fold_Wd hu))).trans (geq_red u)
theorem gnf_gnf (h : Al N d) {u : List Int} (hu : Wd (2 * N) u) : gnf h (gnf h u) = gnf h u := (gnf_geq h (gnf_Wd h hu) hu).2 (geq_gnf h hu)
theorem zng {c : Int} (h : 0 <= c) : code (sign c) = c := by
 unfold code sign
 split <;> split <;> omega
theorem z92 {m : Nat} {w : List Int} (h : Wd m w) : (w.map sign).map code = w := by
 rw [List.map_map]
 have : ∀ x ∈ w,(code ∘ sign) x = x := fun x hx => zng (h x hx).1
 rw [List.map_congr_left this,List.map_id']
def keepZ (m x : Int) : Bool := tb m (x / 2)
theorem zt4 (m a : Int) : keepZ m (opp a) = keepZ m a := by unfold keepZ; rw [opp_div]
theorem keep_eq {m x : Int} (h : 0 <= x) : keepC m x = keepZ m x := by
 unfold keepC keepZ
 rw [Int.tdiv_eq_ediv_of_nonneg h]
theorem zh1 {k : Nat} {m : Int} {w : List Int} (h : Wd k w) : w.filter (keepC m) = w.filter (keepZ m) :=
 List.filter_congr fun x hx => keep_eq (h x hx).1
theorem zfi {k : Nat} {w : List Int} (h : Wd k w) (q : Int -> Bool) : Wd k (w.filter q) := fun x hx => h x (List.mem_filter.1 hx).1
end
end Go.PR.S

end

section
set_option maxRecDepth 20000
namespace Go.PR.S
open Go Go.PR Go.Proofs Gp
section
variable {N : Nat} {d : List Int}
theorem znp (h : Al N d) (L : Nat) : ∀ (c f : List Int),c.length <= L -> Wd (2 * N) c -> Wd (2 * N) f -> c.length + f.length <= 1000 ->
  ∃ c' f' : List Int,Wd (2 * N) c' /\ Wd (2 * N) f' /\ c'.length + f'.length <= 1000 /\ c'.length <= c.length /\ c'.length + f'.length <= c.length + f.length /\
   WpL X F.zb 0 (lb Tryz.f36 0) (z7i (2 * (N : Int)) (dblL N d) true c f).st (fun o => o = (zbt (2 * (N : Int)) (dblL N d) c' f').out) /\
   WpL X F.z9 0 (lb Tryz.f62 0) (z6w (dblL N d) c f).st (fun o => o = (z9n (nform (grp h).toDep (2 * N) c') (gnf h f')).out) /\
   (∀ s : Nat,s < 2 * N -> ends (grp h).toDep c' s = false) /\ ∃ g : List Int,f' = f ++ g /\ teq (grp h).toDep c (g ++ c' ++ back (grp h) g) := by
 have hs := h.small
 have ht := tab_dbl h
 induction L with
 | zero =>
   intro c f hcL hc hf hl
   obtain rfl := List.eq_nil_of_length_eq_zero (show c.length = 0 by omega)
   have hn : ∀ s : Nat,s < 2 * N -> ends (grp h).toDep [] s = false := fun s _ => rfl
   have b1 : ([] : List Int).length <= B40 := by simp [B40]
   have bf : f.length <= B40 := by unfold B40; omega
   refine ⟨[],f,hc,hf,hl,Nat.le_refl _,Nat.le_refl _,?_,?_,hn,[],by simp,by simpa [back] using teq.refl _⟩
   · apply zf3
     case hq =>
      apply zli
      case hq => rfl
      all_goals rfl
     all_goals first | exact zgn h hc b1 f hn | rfl
   · rcases zk8 (T := (grp h).toDep) (m := 2 * N) (by omega) [] (fun s hs => opp_in hs) with ⟨_,hx⟩ | ⟨k,s,hsm,he,_⟩
     · have k1 := zi7 (z8k ([] : List Int) (by simp)) (z5v ht (Wd_rev hc) (by simp [B40]))
       have k2 := z5v ht hc b1
       have p62 : 2 ^ (2 * N) <= 2 ^ 62 := Nat.pow_le_pow_right (by omega) (by omega)
       have hF := z3f (T := (grp h).toDep) (2 * N) []
       have k3 := z8i (m := firstM (grp h).toDep (2 * N) []) (by omega)
       have k4 := z8j ht hc b1
       have k5 := z5w h hf bf
       apply zi6
       case hq => rfl
       all_goals first | exact k1 | exact k2 | exact k3 | exact hx | exact k4 | exact k5 | omega
     · exact absurd he (by simp [ends,isFirst])
 | succ L ih =>
   intro c f hcL hc hf hl
   have bc : c.length <= B40 := by unfold B40; omega
   have bf : f.length <= B40 := by unfold B40; omega
   have bcr : c.reverse.length <= B40 := by rw [List.length_reverse]; exact bc
   have k1 := zi7 (z8k c (by omega)) (z5v ht (Wd_rev hc) bcr)
   have k2 := z5v ht hc bc
   have p62 : 2 ^ (2 * N) <= 2 ^ 62 := Nat.pow_le_pow_right (by omega) (by omega)
   have hF := z3f (T := (grp h).toDep) (2 * N) c
   have k3 := z8i (m := firstM (grp h).toDep (2 * N) c) (by omega)
   rcases zk8 (T := (grp h).toDep) (m := 2 * N) (by omega) c (fun s hs => opp_in hs) with ⟨hn,hx⟩ | ⟨k,s,hsm,he,hmin,hk,hks,hx⟩
   · refine ⟨c,f,hc,hf,hl,Nat.le_refl _,Nat.le_refl _,?_,?_,hn,[],by simp,by simpa [back] using teq.refl _⟩
     · apply zf3
       case hq =>
        apply zli
        case hq => rfl
        all_goals rfl
       all_goals first | exact zgn h hc bc f hn | rfl
     · have k4 := z8j ht hc bc
       have k5 := z5w h hf bf
       apply zi6
       case hq => rfl
       all_goals first | exact k1 | exact k2 | exact k3 | exact hx | exact k4 | exact k5 | omega
   · have hcs := znm h hc bc f bf hsm he hmin
     have he' := he
     unfold ends at he'
     rw [Bool.and_eq_true] at he'
     have hmem := zh he'.1
     have hb := he'.2
     rw [<- z7s (za8 _) (dep_opp h _) he'.1] at hb
     have hmem2 := zh hb
     have l1 := List.length_erase_of_mem hmem
     have l2 := List.length_erase_of_mem hmem2
     rw [List.length_reverse] at l2
     have hpos := List.length_pos_of_mem hmem
     have hpos2 : 0 < (c.erase (s : Int)).length := List.length_pos_of_mem (List.mem_reverse.1 hmem2)
     have hnl : (nextC c s).length + 2 = c.length := by
      unfold nextC
      rw [List.length_reverse]
      omega
     have hfl : (f ++ [(s : Int)]).length = f.length + 1 := by simp
     have hfW : Wd (2 * N) (f ++ [(s : Int)]) := fun x hx => by
      rcases List.mem_append.1 hx with hx | hx
      · exact hf x hx
      · rw [List.mem_singleton.1 hx]; omega
     obtain ⟨c',f',w1,w2,w3,w4,w5,w6,w7,w8,g,w9,w10⟩ := ih (nextC c s) (f ++ [(s : Int)]) (by omega) (Wd_next hc s) hfW (by omega)
     have t1 : teq (grp h).toDep ((s : Int) :: c.erase (s : Int)) c := z31 he'.1
     have t2 : teq (grp h).toDep (nextC c s ++ [opp (s : Int)]) (c.erase (s : Int)) := by
      have := (z31 hb).reverse
      rw [List.reverse_cons,List.reverse_reverse] at this
      exact this
     have t3 : teq (grp h).toDep c (((s : Int) :: g) ++ c' ++ back (grp h) ((s : Int) :: g)) := by
      refine t1.symm.trans ?_
      have t4 := (t2.symm.trans (teq.append w10 (teq.refl [opp (s : Int)]))).cons (s : Int)
      rw [z6d]
      show teq (grp h).toDep _ ((s : Int) :: g ++ c' ++ (back (grp h) g ++ [opp (s : Int)]))
      simpa [List.append_assoc] using t4
     refine ⟨c',f',w1,w2,w3,by omega,by omega,?_,?_,w8,(s : Int) :: g,by rw [w9]; simp,t3⟩
     · apply zf3
       case hq => exact w6
       all_goals first | exact hcs | rfl
     · have hg : (bitsL (firstM (grp h).toDep (2 * N) c)).getD (0 + ((k : Int)).toNat) 0 = (s : Int) := by rw [Nat.zero_add,Int.toNat_natCast]; exact hks
       have c6 := z8m hmem bc
       have c7 := zwl (w := c.erase (s : Int)) (List.mem_reverse.1 hmem2) (by omega)
       have ho := opp_xor (s := s) (by omega)
       rw [<- ho] at c7
       rw [<- hg] at c6
       have e7 : ((c.erase (s : Int)).reverse.erase (ixor (s : Int) 1)).reverse = nextC c s := by rw [ho]; rfl
       rw [e7] at c7
       apply zrv
       case hq => rw [hg]; exact w7
       all_goals first | exact k1 | exact k2 | exact k3 | exact hx | (rw [hg] at c6; rw [hg]; exact c6) | (rw [hg]; exact c7) | omega
end
end Go.PR.S

end

section
set_option maxRecDepth 20000
namespace Go.PR.S
open Go Go.PR Go.Proofs Gp
section
variable {N : Nat} {d : List Int}
theorem z99 (h : Al N d) {x : List Int} (hx : Wd (2 * N) x) (hf : (fold (grp h) x []).length = x.length) : gnf h x = nform (grp h).toDep (2 * N) x := by
 unfold gnf
 rw [z7t x [] (by simpa using hf),List.append_nil,List.reverse_reverse]
theorem zd3 (h : Al N d) {w : List Int} (hw : Wd (2 * N) w) : (fold (grp h) (gnf h w) []).length = (gnf h w).length := by
 have h1 := gnf_len h (gnf_Wd h hw)
 rw [gnf_gnf h hw] at h1
 exact h1.symm
theorem zgw {T : Dep Int} {u v : List Int} (h : teq T u v) (s : Int) : ends T u s = ends T v s := by
 unfold ends
 rw [h.first,h.reverse.first]
theorem z8c (h : Al N d) {w : List Int} (hw : Wd (2 * N) w) (hl : w.length <= 24) :
  ∃ c f : List Int,Wd (2 * N) c /\ Wd (2 * N) f /\ gnf h c = c /\ gnf h f = f /\ (∀ s : Nat,s < 2 * N -> ends (grp h).toDep c s = false) /\ (gnf h w).length = f.length + c.length + f.length /\
   geq (grp h) (f ++ c ++ back (grp h) f) w /\ ((∀ s : Nat,s < 2 * N -> ends (grp h).toDep (gnf h w) s = false) -> c = gnf h w /\ f = []) /\
   Runs X F.zb [alD (2 * (N : Int)) (dblL N d),lD (gnf h w)] [] ⟨.tup [.rsl 600000 0 c.length,.rsl 600001 0 f.length],[],[⟨true,.ints .i64 c⟩,⟨true,.ints .i64 f⟩]⟩ /\
   Runs X F.z9 [lD (dblL N d),lD w] [] ⟨.tup [.rsl 600000 0 c.length,.rsl 600001 0 f.length],[],[⟨true,.ints .i64 c⟩,⟨true,.ints .i64 f⟩]⟩ := by
 have hs := h.small
 have ht := tab_dbl h
 have hg := gnf_le h hw
 have gW := gnf_Wd h hw
 have bg : (gnf h w).length <= B40 := by unfold B40; omega
 obtain ⟨c',f',w1,w2,w3,w4,w5,w6,w7,w8,g,w9,w10⟩ := znp h _ (gnf h w) [] (Nat.le_refl _) gW (fun x hx => by cases hx) (by simp; omega)
 rw [List.nil_append] at w9
 subst w9
 simp only [List.length_nil,Nat.add_zero] at w5
 have hfull := zd3 h hw
 have hfull2 := zd4 w10 hfull
 have hc : (fold (grp h) c' []).length = c'.length := zhg hfull2
 have hf : (fold (grp h) f' []).length = f'.length := by
  have e : f' ++ c' ++ back (grp h) f' = [] ++ f' ++ (c' ++ back (grp h) f') := by simp
  rw [e] at hfull2
  exact zhg hfull2
 have nW : Wd (2 * N) (nform (grp h).toDep (2 * N) c') := fun x hx => w1 x (((z2t w1).mem x).1 hx)
 have nS := z2t (T := (grp h).toDep) w1
 have nf : (fold (grp h) (nform (grp h).toDep (2 * N) c') []).length = (nform (grp h).toDep (2 * N) c').length := zd4 nS.symm hc
 have lf : (gnf h f').length = f'.length := by rw [gnf_len h w2,hf]
 have lb : (back (grp h) f').length = f'.length := by unfold back; simp
 have lw := w10.length
 simp only [List.length_append,lb] at lw
 have k1 := z3p (w := gnf h w) (by omega)
 have k2 := zak ht w1 (by unfold B40; omega)
 have k3 := z8g h w2 (by unfold B40; omega)
 have k4 := z5w h hw (by unfold B40; omega)
 refine ⟨nform (grp h).toDep (2 * N) c',gnf h f',nW,gnf_Wd h w2,?_,gnf_gnf h w2,fun s hsm => by rw [zgw nS]; exact w8 s hsm,by rw [lf,z86 w1]; omega,?_,?_,?_,?_⟩
 · rw [z99 h nW nf]
   exact teq.nform nS (2 * N)
 · have q1 := geq_gnf h w2
   have q2 : geq (grp h) (nform (grp h).toDep (2 * N) c') c' := z28 nS
   exact ((q1.append q2).append q1.back).trans ((z28 w10.symm).trans (geq_gnf h hw))
 · intro hn
   have hf0 : f' = [] := by
    cases hff : f' with
    | nil => rfl
    | cons s t =>
      have hsW := w2 s (by rw [hff]; simp)
      have := hn s.toNat (by omega)
      rw [Int.toNat_of_nonneg hsW.1,zgw w10,hff] at this
      unfold ends at this
      rw [z6d] at this
      have e1 : isFirst (grp h).toDep (s :: t ++ c' ++ (back (grp h) t ++ [(grp h).inv s])) s = true := by simp [isFirst]
      have e2 : (s :: t ++ c' ++ (back (grp h) t ++ [(grp h).inv s])).reverse = opp s :: (s :: t ++ c' ++ back (grp h) t).reverse := by
       show (s :: t ++ c' ++ (back (grp h) t ++ [opp s])).reverse = _
       simp
      rw [e1,e2] at this
      simp [isFirst] at this
   subst hf0
   have e : gnf h ([] : List Int) = [] := List.eq_nil_of_length_eq_zero (by rw [lf]; rfl)
   refine ⟨?_,e⟩
   have w11 : teq (grp h).toDep (gnf h w) c' := by simpa [back] using w10
   have e3 := teq.nform w11.symm (2 * N)
   rw [e3,<- z99 h gW hfull,gnf_gnf h hw]
 · exact z11d k1 w6 k2 k3
 · exact zru k4 w7
end
end Go.PR.S

end
