/- What the program's functions come to,eighth part: the double alphabet,the normal form in the group. -/
import Derived.Test.YtnhklcbddcoadaaGreatDoorFwP7
set_option linter.unusedVariables false
set_option linter.unusedSimpArgs false
set_option linter.unusedSectionVars false
section
set_option maxRecDepth 20000
namespace Go.PR.S
open Go Go.PR Go.Proofs Gp
def dblM (d : List Int) (m i : Nat) : Nat := mkM (fun b => (dm d i).testBit (b / 2)) m
def dblL (n : Nat) (d : List Int) : List Int := (List.range (2 * n)).map fun a => ((dblM d (2 * n) (a / 2) : Nat) : Int)
theorem three {k b : Nat} : (3 * 2 ^ (2 * k)).testBit b = decide (b / 2 = k) := by
 have e : 3 * 2 ^ (2 * k) = 2 ^ (2 * k + 1) ||| 2 ^ (2 * k) := by
  have := Nat.two_pow_add_eq_or_of_lt (i := 2 * k + 1) (b := 2 ^ (2 * k)) (Nat.pow_lt_pow_right (by omega) (by omega)) 1
  rw [Nat.mul_one] at this
  rw [<- this,Nat.pow_succ]; omega
 rw [e,Nat.testBit_or,Nat.testBit_two_pow,Nat.testBit_two_pow]
 rw [Bool.eq_iff_iff]
 simp only [Bool.or_eq_true,decide_eq_true_eq]
 omega
theorem zuc {f g : Nat -> Bool} {m : Nat} (h : ∀ i,i < m -> f i = g i) : mkM f m = mkM g m := by
 apply Nat.eq_of_testBit_eq
 intro i
 rw [mkM_bit,mkM_bit]
 by_cases hi : i < m
 · rw [h i hi]
 · simp [hi]
theorem z8l {n : Nat} {d : List Int} (h : Al n d) : Runs X F.ze [alD n d] [] (rowR (dblL n d)) := by
 have hs := h.small
 have hl := h.len
 have dlen : (dblL n d).length = 2 * n := by simp [dblL]
 refine zrf (loop_to (N := n) (st := fun i => z6u d i ((dblL n d).take (2 * i))) (fun i hi Q hq => ?_) (fun Q hq => ?_))
 · obtain ⟨hm1,hm2⟩ := h.mask i hi
   have h63 := h.small63 hi
   have c1 := z8i h63
   rw [<- hm1] at c1
   have hlen : (bitsN (dm d i)).length = (bitsL (dm d i)).length := by simp [bitsL]
   have hb63 := zfy (dm d i)
   let fm : Nat -> Nat := fun j => mkM (fun b => decide (b / 2 ∈ (bitsN (dm d i)).take j)) (2 * n)
   have hfm : ∀ j,fm j < 2 ^ 63 := fun j => Nat.lt_of_lt_of_le (mkM_lt _ _) (Nat.pow_le_pow_right (by omega) (by omega))
   have hin : WL F.ze 2 Tryz.f30 1 (z5f d i ((dblL n d).take (2 * i)) (bitsL (dm d i)) 0 0) (z81 d i ((dblL n d).take (2 * i)) (dblM d (2 * n) i)) := by
    have e0 : ((fm 0 : Nat) : Int) = 0 := by
     have : fm 0 = 0 := by
      apply Nat.eq_of_testBit_eq; intro b; show (mkM _ _).testBit b = _; rw [mkM_bit]; simp
     rw [this]; rfl
    have eN : fm (bitsN (dm d i)).length = dblM d (2 * n) i := by
     apply zuc
     intro b hb
     rw [List.take_length,Bool.eq_iff_iff,decide_eq_true_eq]
     exact z5r h63
    have key := loop_to (f := F.ze) (b := 2) (body := lb Tryz.f30 1) (N := (bitsN (dm d i)).length) (o := z81 d i ((dblL n d).take (2 * i)) (dblM d (2 * n) i)) (st := fun j => z5f d i ((dblL n d).take (2 * i)) (bitsL (dm d i)) (fm j) j) (fun j hj Q hq => ?_) (fun Q hq => ?_)
    · simp only [e0] at key; exact key
    · have hg := zfw hj
      have hbit := (z5r h63).1 (List.getElem_mem hj)
      have hklt : (bitsN (dm d i))[j] < n := bit_lt hm2 hbit
      have e3 : ishl 3 (2 * (bitsL (dm d i)).getD (0 + j) 0) = ((3 * 2 ^ (2 * (bitsN (dm d i))[j]) : Nat) : Int) := by
       rw [Nat.zero_add,hg]
       have : (2 : Int) * (((bitsN (dm d i))[j] : Nat) : Int) = ((2 * (bitsN (dm d i))[j] : Nat) : Int) := by omega
       rw [this]
       have := zic 3 (2 * (bitsN (dm d i))[j])
       rw [Nat.min_eq_left (by omega)] at this
       exact this
      have e4 : 3 * 2 ^ (2 * (bitsN (dm d i))[j]) < 2 ^ 63 := by
       have : 2 ^ (2 * (bitsN (dm d i))[j]) <= 2 ^ 14 := Nat.pow_le_pow_right (by omega) (by omega)
       omega
      have e5 : ior (fm j) (ishl 3 (2 * (bitsL (dm d i)).getD (0 + j) 0)) = fm (j + 1) := by
       rw [e3,ior_nat (hfm j) e4]
       congr 1
       apply Nat.eq_of_testBit_eq
       intro b
       show (mkM _ _ ||| _).testBit b = (mkM _ _).testBit b
       rw [Nat.testBit_or,mkM_bit,mkM_bit,three,List.take_succ_eq_append_getElem hj,Bool.eq_iff_iff]
       simp only [Bool.or_eq_true,Bool.and_eq_true,decide_eq_true_eq,List.mem_append,List.mem_singleton]
       constructor
       · rintro (⟨h1,h2⟩ | h1)
         · exact ⟨h1,.inl h2⟩
         · exact ⟨by omega,.inr h1⟩
       · rintro ⟨h1,h2 | h2⟩
         · exact .inl ⟨h1,h2⟩
         · exact .inr h2
      have e6 : (0 : Int) <= ((3 * 2 ^ (2 * (bitsN (dm d i))[j]) : Nat) : Int) := Int.natCast_nonneg _
      have e7 : ((3 * 2 ^ (2 * (bitsN (dm d i))[j]) : Nat) : Int) < ((2 ^ 63 : Nat) : Int) := Int.ofNat_lt.2 e4
      apply zri
      case hq => rw [e5]; exact hq
      all_goals first | exact c1 | (rw [e3]; omega) | (rw [Nat.zero_add,hg]; omega) | (rw [<- hlen]; omega) | omega
    · rw [eN]
      apply zrj
      case hq => exact hq
      all_goals first | exact c1 | (rw [<- hlen]; omega) | omega
   have e8 : (dblL n d).take (2 * (i + 1)) = (dblL n d).take (2 * i) ++ ([((dblM d (2 * n) i : Nat) : Int)] ++ [((dblM d (2 * n) i : Nat) : Int)]) := by
    have g : ∀ k,k < 2 * n -> ∀ hk,(dblL n d)[k]'hk = ((dblM d (2 * n) (k / 2) : Nat) : Int) := fun k hk hk' => by simp [dblL]
    rw [show 2 * (i + 1) = 2 * i + 1 + 1 by omega,List.take_succ_eq_append_getElem (by omega),List.take_succ_eq_append_getElem (by omega),List.append_assoc]
    rw [g _ (by omega),g _ (by omega),show (2 * i) / 2 = i by omega,show (2 * i + 1) / 2 = i by omega]
   apply zrg
   case hq => rw [<- e8]; exact hq
   all_goals first | exact c1 | exact hin | (simp only [List.length_take,List.length_append,List.length_singleton]; omega) | omega
 · apply zrh
   case hq => rw [List.take_of_length_le (by omega)]; exact hq
   all_goals omega
theorem zw6 {n : Int} {d : List Int} {a b : Nat} (ha : a < d.length) (h : ∃ k : Nat,d.getD a 0 = k /\ k < 2 ^ 63) (hb : b < 2 ^ 63) : Runs X F.z3a [alD n d,iD a,iD b] [] (boolR ((dm d a).testBit b)) := by
 obtain ⟨k,hk,hlt⟩ := h
 have e : dm d a = k := by unfold dm; rw [hk]; rfl
 have c := zai (m := k) (i := b) hlt hb
 have e2 : tb (k : Int) b = (dm d a).testBit b := by rw [e]; unfold tb; simp
 rw [e2,<- hk] at c
 have := zl6 (n := n) (d := d) (a := (a : Int)) (b := (b : Int)) (b3 := (dm d a).testBit b) (by omega) (by omega) (by rw [Int.toNat_natCast]; exact c)
 exact this
theorem zk5 {n : Nat} {d : List Int} (h : Al n d) : Runs X F.zi [alD n d] [] ⟨.agg [.int .i64 (2 * (n : Int)),.rsl 600000 0 (dblL n d).length],[],[⟨true,.ints .i64 (dblL n d)⟩]⟩ := by
 have hs := h.small
 have hl := h.len
 have dlen : (dblL n d).length = 2 * n := by simp [dblL]
 refine z11h (by omega) (by omega) (loop_to (N := 2 * n) (st := fun i => z7j n d i ((dblL n d).take i)) (fun i hi Q hq => ?_) (fun Q hq => ?_))
 · have hi2 : i / 2 < n := by omega
   obtain ⟨hm1,hm2⟩ := h.mask (i / 2) hi2
   have h63 := h.small63 hi2
   let fm : Nat -> Nat := fun j => mkM (fun b => (dm d (i / 2)).testBit (b / 2)) j
   have hfm : ∀ j,j <= 62 -> fm j < 2 ^ 63 := fun j hj => Nat.lt_of_lt_of_le (mkM_lt _ _) (Nat.pow_le_pow_right (by omega) (by omega))
   have td : ∀ j : Nat,(j : Int).tdiv 2 = ((j / 2 : Nat) : Int) := fun j => by rw [(tm2 (by omega)).2]; omega
   have hin : WL F.zi 2 Tryz.f35 1 (z3b n d i ((dblL n d).take i) 0 0) (z8u n d i ((dblL n d).take i) (dblM d (2 * n) (i / 2))) := by
    have key := loop_to (f := F.zi) (b := 2) (body := lb Tryz.f35 1) (N := 2 * n) (o := z8u n d i ((dblL n d).take i) (dblM d (2 * n) (i / 2))) (st := fun j => z3b n d i ((dblL n d).take i) (fm j) j) (fun j hj Q hq => ?_) (fun Q hq => ?_)
    · have e0 : ((fm 0 : Nat) : Int) = 0 := rfl
      simp only [e0] at key; exact key
    · have c1 := zw6 (n := (n : Int)) (d := d) (a := i / 2) (b := j / 2) (by omega) ⟨_,hm1,h63⟩ (by omega)
      rw [<- td i,<- td j] at c1
      have hti := td i
      have htj := td j
      cases hb : (dm d (i / 2)).testBit (j / 2) with
      | true =>
        have c2 := z5x (i := j) (by omega)
        have e5 : ior (fm j) ((2 ^ j : Nat) : Int) = fm (j + 1) := by
         rw [ior_nat (hfm j (by omega)) (pow62 (by omega))]
         have e : fm (j + 1) = fm j ||| (if (dm d (i / 2)).testBit (j / 2) then 2 ^ j else 0) := rfl
         rw [e,if_pos hb]
        apply z11k
        case hq => rw [e5]; exact hq
        all_goals first | exact c1 | exact c2 | exact hb | omega
      | false =>
        have e5 : fm (j + 1) = fm j := by
         have e : fm (j + 1) = fm j ||| (if (dm d (i / 2)).testBit (j / 2) then 2 ^ j else 0) := rfl
         rw [e,if_neg (by rw [hb]; simp),Nat.or_zero]
        apply z11l
        case hq => rw [<- e5]; exact hq
        all_goals first | exact c1 | exact hb | omega
    · apply z11m
      case hq => exact hq
      all_goals omega
   have e8 : (dblL n d).take (i + 1) = (dblL n d).take i ++ [((dblM d (2 * n) (i / 2) : Nat) : Int)] := by
    rw [List.take_succ_eq_append_getElem (by omega)]
    congr 2
    simp [dblL]
   apply z11i
   case hq => rw [<- e8]; exact hq
   all_goals first | exact hin | (simp only [List.length_take]; omega) | omega
 · apply z11j
   case hq => rw [List.take_of_length_le (by omega)]; exact hq
   all_goals omega
def depZ (n : Nat) (d : List Int) (a b : Int) : Bool := decide (a = b) || (decide (0 <= a /\ a < n /\ 0 <= b /\ b < n) && (dm d a.toNat).testBit b.toNat)
theorem zgr {n : Nat} {d : List Int} (h : Al n d) (a b : Int) : depZ n d a b = depZ n d b a := by
 unfold depZ
 by_cases hr : 0 <= a /\ a < n /\ 0 <= b /\ b < n
 · have hr' : 0 <= b /\ b < n /\ 0 <= a /\ a < n := by omega
   rw [h.sym a.toNat b.toNat (by omega) (by omega)]
   have e : decide (a = b) = decide (b = a) := by rw [Bool.eq_iff_iff]; simp; omega
   simp [hr,hr',e]
 · have hr' : ¬ (0 <= b /\ b < n /\ 0 <= a /\ a < n) := by omega
   have e : decide (a = b) = decide (b = a) := by rw [Bool.eq_iff_iff]; simp; omega
   simp only [hr,hr',decide_false,Bool.false_and,Bool.or_false,e]
theorem opp_div (a : Int) : opp a / 2 = a / 2 := by unfold opp; split <;> omega
theorem opp_opp (a : Int) : opp (opp a) = a := by unfold opp; split <;> split <;> omega
def grp {n : Nat} {d : List Int} (h : Al n d) : Grp Int where
 d := fun a b => depZ n d (a / 2) (b / 2)
 sym := fun a b => zgr h _ _
 refl := fun a => by simp [depZ]
 inv := opp
 inv2 := opp_opp
 dinv := fun a b => by show depZ n d (opp a / 2) (b / 2) = _; rw [opp_div]
theorem grp_bit {n : Nat} {d : List Int} (h : Al n d) {a b : Nat} (ha : a < 2 * n) (hb : b < 2 * n) : (grp h).d a b = (dm d (a / 2)).testBit (b / 2) := by
 show depZ n d ((a : Int) / 2) ((b : Int) / 2) = _
 have e1 : (a : Int) / 2 = ((a / 2 : Nat) : Int) := by omega
 have e2 : (b : Int) / 2 = ((b / 2 : Nat) : Int) := by omega
 rw [e1,e2]
 unfold depZ
 have hr : (0 : Int) <= ((a / 2 : Nat) : Int) /\ ((a / 2 : Nat) : Int) < n /\ (0 : Int) <= ((b / 2 : Nat) : Int) /\ ((b / 2 : Nat) : Int) < n := by omega
 simp only [hr,and_self,decide_true,Bool.true_and,Int.toNat_natCast]
 by_cases e : a / 2 = b / 2
 · rw [e,h.refl _ (by omega)]; simp
 · have : decide (((a / 2 : Nat) : Int) = ((b / 2 : Nat) : Int)) = false := by simp; omega
   rw [this,Bool.false_or]
theorem znq {n : Nat} {d : List Int} {a : Nat} (ha : a < 2 * n) : (dblL n d).getD a 0 = ((dblM d (2 * n) (a / 2) : Nat) : Int) := by
 unfold dblL; rw [getD_lt (by simpa using ha)]; simp
theorem tab_dbl {n : Nat} {d : List Int} (h : Al n d) : Tab (grp h).toDep (2 * n) (dblL n d) where
 len := by simp [dblL]
 small := by have := h.small; omega
 mask := fun a ha => ⟨dblM d (2 * n) (a / 2),mkM_lt _ _,znq ha,fun b hb => by
  unfold dblM
  rw [mkM_bit]
  have := grp_bit h ha hb
  rw [this]
  simp [hb]⟩
theorem opp_xor {s : Nat} (h : s < 2 ^ 62) : ixor (s : Int) 1 = opp s := by
 have e : ixor (s : Int) 1 = ((s ^^^ 1 : Nat) : Int) := zt0 (b := 1) (by omega) (by omega)
 rw [e]
 unfold opp
 have h2 := Nat.xor_mod_two_eq_one (a := s) (b := 1)
 have h3 : (s ^^^ 1) / 2 = s / 2 := by rw [Nat.xor_div_two]; simp
 split <;> omega
section
variable {n : Nat} {d : List Int}
theorem Wd_opp {m : Nat} {w : List Int} (h : Wd (2 * m) w) {x : Int} (hx : x ∈ w) : 0 <= opp x /\ opp x < (2 * m : Nat) := by
 have := h x hx
 unfold opp
 split <;> omega
def gnf (h : Al n d) (w : List Int) : List Int := nform (grp h).toDep (2 * n) (fold (grp h) w []).reverse
theorem zv4 {G : Grp Int} {s x : Int} {R : List Int} (h : x ∈ push G s R) : x = s \/ x ∈ R := by
 unfold push at h
 split at h
 · exact .inr (List.mem_of_mem_erase h)
 · rcases List.mem_cons.1 h with h | h
   · exact .inl h
   · exact .inr h
theorem zhb {G : Grp Int} : ∀ {w R : List Int} {x : Int},x ∈ fold G w R -> x ∈ w \/ x ∈ R
 | [],R,x,h => .inr h
 | s :: w,R,x,h => by
   rw [z12] at h
   rcases zhb h with h | h
   · exact .inl (by simp [h])
   · rcases zv4 h with h | h
     · exact .inl (by simp [h])
     · exact .inr h
theorem fold_Wd {G : Grp Int} {m : Nat} {w : List Int} (h : Wd m w) : Wd m (fold G w []).reverse := fun x hx => by
 rcases zhb (List.mem_reverse.1 hx) with h1 | h1
 · exact h x h1
 · cases h1
theorem zv3 {G : Grp Int} {s : Int} {R : List Int} : (push G s R).length <= R.length + 1 := by
 unfold push
 split
 · have := List.length_erase_le (a := G.inv s) (l := R); omega
 · simp
theorem zcz {G : Grp Int} : ∀ {w R : List Int},(fold G w R).length <= w.length + R.length
 | [],R => by simp [fold]
 | s :: w,R => by
   rw [z12]
   have h1 := zcz (G := G) (w := w) (R := push G s R)
   have h2 := zv3 (G := G) (s := s) (R := R)
   simp only [List.length_cons]
   omega
theorem z5w (h : Al n d) {w : List Int} (hw : Wd (2 * n) w) (hl : w.length <= B40) : Runs X F.zk [lD (dblL n d),lD w] [] (rowR (gnf h w)) := by
 have hs := h.small
 have ht := tab_dbl h
 have tlen := ht.len
 let out : Nat -> List Int := fun i => (fold (grp h) (w.take i) []).reverse
 have outW : ∀ i,Wd (2 * n) (out i) := fun i => fold_Wd fun x hx => hw x (List.mem_of_mem_take hx)
 have outL : ∀ i,(out i).length <= i := fun i => by
  show (List.reverse _).length <= _
  rw [List.length_reverse]
  have := zcz (G := grp h) (w := w.take i) (R := [])
  simp only [List.length_take,List.length_nil] at this
  omega
 have key := loop_to (f := F.zk) (b := 0) (body := lb Tryz.f31 0) (N := w.length) (o := z9p (dblL n d) (out w.length)) (st := fun i => z2m (dblL n d) w i (out i)) (fun i hi Q hq => ?_) (fun Q hq => ?_)
 · have c1 := z8j ht (outW w.length) (by have := outL w.length; omega)
   have e0 : out 0 = [] := rfl
   simp only [e0] at key
   have := zs5 key c1
   have e1 : out w.length = (fold (grp h) w []).reverse := by show (fold (grp h) (w.take w.length) []).reverse = _; rw [List.take_length]
   rw [e1] at this
   exact this
 · -- a round
   have hx := Wd.at hw hi
   obtain ⟨s,hse⟩ : ∃ s : Nat,w.getD i 0 = (s : Int) := ⟨(w.getD i 0).toNat,by omega⟩
   have hsm : s < 2 * n := by omega
   obtain ⟨k,hk,hke,hkb⟩ := ht.mask s hsm
   have hk63 : k < 2 ^ 63 := Nat.lt_of_lt_of_le hk (Nat.pow_le_pow_right (by omega) (by omega))
   have hx1 : ixor (w.getD i 0) 1 = opp s := by rw [hse]; exact opp_xor (by omega)
   have hstep : out (i + 1) = (push (grp h) (s : Int) (out i).reverse).reverse := by
    show (fold (grp h) (w.take (i + 1)) []).reverse = _
    rw [List.take_succ_eq_append_getElem hi,z1l,z12,z5a,<- getD_lt hi,hse]
    simp [out]
   have hol := outL i
   have c1 : ∀ y : Nat,y < 2 * n -> Runs X F.z21 [iD ((dblL n d).getD (w.getD i 0).toNat 0),iD y] [] (boolR ((grp h).d s y)) := fun y hy => by
    have c := z74 (i := y) hk63
    have e : tb (k : Int) y = (grp h).d s y := by rw [<- hkb y hy]; unfold tb; simp
    rw [e,<- hke] at c
    rw [hse,Int.toNat_natCast]
    exact c
   -- the inner loop
   have inner : ∀ (q : Nat),q <= (out i).length -> (∀ j,q <= j -> (hj : j < (out i).length) -> (grp h).d s (out i)[j] = false) ->
     ∃ r : Int,WL F.zk 2 Tryz.f31 1 (z34 (dblL n d) w i (out i) ((q : Int) - 1)) (z3n (dblL n d) w i (out i) r) /\
      ((r = -1 /\ ∀ x ∈ out i,(grp h).d s x = false) \/ ∃ p : Nat,r = p /\ ∃ hp : p < (out i).length,(grp h).d s (out i)[p] = true /\ ∀ j,p < j -> (hj : j < (out i).length) -> (grp h).d s (out i)[j] = false) := by
    intro q
    induction q with
    | zero =>
      intro hq0 hall
      refine ⟨-1,?_,.inl ⟨rfl,fun x hx => ?_⟩⟩
      · apply zsd
        case hq => rfl
        all_goals (unfold B40 at hl; omega)
      · obtain ⟨j,hj,rfl⟩ := List.getElem_of_mem hx
        exact hall j (by omega) hj
    | succ q ih =>
      intro hq0 hall
      have hqlt : q < (out i).length := by omega
      have hy := outW i (out i)[q] (List.getElem_mem hqlt)
      obtain ⟨y,hye⟩ : ∃ y : Nat,(out i)[q] = (y : Int) := ⟨(out i)[q].toNat,by omega⟩
      have e1 : ((q + 1 : Nat) : Int) - 1 = (q : Int) := by omega
      rw [e1]
      have c2 := c1 y (by omega)
      have e2 : (out i).getD (0 + (q : Int).toNat) 0 = (y : Int) := by rw [Nat.zero_add,Int.toNat_natCast,getD_lt hqlt,hye]
      rw [<- e2] at c2
      cases hd : (grp h).d s (out i)[q] with
      | true =>
        refine ⟨q,?_,.inr ⟨q,rfl,hqlt,hd,fun j h1 h2 => hall j (by omega) h2⟩⟩
        apply zsc
        case hq => rfl
        all_goals first | exact c2 | (rw [e2,<- hye]; exact hd) | (unfold B40 at hl; omega)
      | false =>
        obtain ⟨r,h1,h2⟩ := ih (by omega) (fun j h1 h2 => by
         by_cases e : j = q
         · subst e; exact hd
         · exact hall j (by omega) h2)
        refine ⟨r,?_,h2⟩
        apply zsb
        case hq => exact h1
        all_goals first | exact c2 | (rw [e2,<- hye]; exact hd) | (unfold B40 at hl; omega)
   obtain ⟨r,hr1,hr2⟩ := inner (out i).length (Nat.le_refl _) (fun j h1 h2 => by omega)
   have hin : WpL X F.zk 2 (lb Tryz.f31 1) (z34 (dblL n d) w i (out i) (((out i).length : Int) - 1)).st (fun o => o = (z3n (dblL n d) w i (out i) r).out) := hr1
   rcases hr2 with ⟨rfl,hnone⟩ | ⟨p,rfl,hp,hdp,hlater⟩
   · have hf : isFirst (grp h).toDep (out i).reverse ((grp h).inv s) = false := zok hnone
     have e1 : out (i + 1) = out i ++ [w.getD i 0] := by
      rw [hstep,hse]; unfold push; rw [if_neg (by rw [hf]; simp)]; simp
     apply zs9
     case hq => rw [<- e1]; exact hq
     all_goals first | exact hin | (unfold B40 at hl; omega)
   · have hsplit : out i = (out i).take p ++ (out i)[p] :: (out i).drop (p + 1) := by simp
     have hB : ∀ x ∈ (out i).drop (p + 1),(grp h).d s x = false := fun x hx => by
      obtain ⟨j,hj,rfl⟩ := List.getElem_of_mem hx
      rw [List.getElem_drop]
      exact hlater _ (by omega) _
     have hfr := zom (G := grp h) (s := s) (A := (out i).take p) hB hdp
     rw [<- hsplit] at hfr
     have e2 : (out i).getD (0 + (p : Int).toNat) 0 = (out i)[p] := by rw [Nat.zero_add,Int.toNat_natCast,getD_lt hp]
     by_cases hinv : (out i)[p] = opp s
     · have hinv' : (out i)[p] = (grp h).inv s := hinv
       rw [if_pos hinv'] at hfr
       have e1 : out (i + 1) = (out i).eraseIdx p := by
        rw [hstep]; unfold push; rw [if_pos hfr.1,hfr.2,List.reverse_reverse,List.eraseIdx_eq_take_drop_succ]
       have c3 := zvo (out i) p hp
       rw [e1] at hq
       apply zs6
       case hq => exact hq
       all_goals first | exact hin | exact c3 | (rw [e2,hx1]; exact hinv) | (unfold B40 at hl; omega)
     · have hinv' : ¬ (out i)[p] = (grp h).inv s := hinv
       rw [if_neg hinv'] at hfr
       have e1 : out (i + 1) = out i ++ [w.getD i 0] := by
        rw [hstep,hse]; unfold push; rw [if_neg (by rw [hfr]; simp)]; simp
       apply zs7
       case hq => rw [<- e1]; exact hq
       all_goals first | exact hin | (rw [e2,hx1]; exact hinv) | (unfold B40 at hl; omega)
 · apply zsa
   case hq => exact hq
   all_goals (unfold B40 at hl; omega)
end
end Go.PR.S

end

section
set_option maxRecDepth 20000
namespace Go.PR.S
open Go Go.PR Go.Proofs Gp
theorem z3p (w : List Int) (hl : w.length <= 4 * B40) : Runs X F.z18 [lD w] [] (rowR w) := zyz (by unfold B40 at hl; omega)
theorem z3q {w : List Int} {i : Nat} (hi : i < w.length) (hl : w.length <= B40) : Runs X F.z2y [lD w,iD i] [] (rowR (w.eraseIdx i)) := by
 have e1 : ((i : Int)).toNat - 0 = i := by omega
 have e2 : ((i : Int) + 1).toNat = i + 1 := by omega
 have e3 : List.take (w.length - (i + 1)) (List.drop (i + 1) w) = w.drop (i + 1) := List.take_of_length_le (by simp)
 have c1 := z3p (w.take i) (by simp only [List.length_take]; unfold B40 at *; omega)
 have := z10s (w := w) (i := (i : Int)) (xs3 := w.take i) (by omega) (by omega) (by rw [e1,List.drop_zero]; exact c1) (by unfold B40 at hl; omega) (by omega) (by rw [e2,e3]; simp only [List.length_take,List.length_drop]; unfold B40 at hl; omega)
 rw [e2,e3,<- List.eraseIdx_eq_take_drop_succ] at this
 exact this
section
variable {T : Dep Int} {m : Nat} {t : List Int}
theorem zk0 (ht : Tab T m t) (n : Int) {a b : Int} (ha : 0 <= a /\ a < m) (hb : 0 <= b /\ b < m) : Runs X F.z3a [alD n t,iD a,iD b] [] (boolR (T.d a b)) := by
 have hs := ht.small
 have hlen := ht.len
 obtain ⟨k,hk,hke,hkb⟩ := ht.mask a.toNat (by omega)
 have hk63 : k < 2 ^ 63 := Nat.lt_of_lt_of_le hk (Nat.pow_le_pow_right (by omega) (by omega))
 have c := zai (m := k) (i := b.toNat) hk63 (by omega)
 have e : tb (k : Int) (b.toNat : Int) = T.d a b := by
  have := hkb b.toNat (by omega)
  have e1 : ((a.toNat : Nat) : Int) = a := by omega
  have e2 : ((b.toNat : Nat) : Int) = b := by omega
  rw [e1,e2] at this
  unfold tb; rw [Int.toNat_natCast,Int.toNat_natCast]; exact this
 rw [e,<- hke] at c
 have e2 : ((b.toNat : Nat) : Int) = b := by omega
 rw [e2] at c
 exact zl6 (by omega) (by omega) c
theorem z2v (ht : Tab T m t) (n : Int) {w : List Int} (hw : Wd m w) {a : Int} (ha : 0 <= a /\ a < m) (hl : w.length <= B40) :
  Runs X F.zo [alD n t,lD w,iD a] [] (intR (if isFirst T w a then (w.idxOf a : Int) else -1)) := by
 have key : ∀ (S P : List Int),w = P ++ S -> (∀ y ∈ P,y ≠ a /\ T.d y a = false) ->
   (isFirst T S a = true -> WL F.zo 0 Tryz.f77 0 (z2h n t w a P.length) (z63 (w.idxOf a))) /\
   (isFirst T S a = false -> WL F.zo 0 Tryz.f77 0 (z2h n t w a P.length) (z63 (-1)) \/ WL F.zo 0 Tryz.f77 0 (z2h n t w a P.length) zbg) := by
  intro S
  induction S with
  | nil =>
    intro P e hP
    refine ⟨(fun h => by cases h),fun _ => .inr ?_⟩
    have : w.length = P.length := by rw [e]; simp
    apply z10e
    case hq => rfl
    all_goals omega
  | cons y S ih =>
    intro P e hP
    have hlt : P.length < w.length := by rw [e]; simp
    have hg : w.getD P.length 0 = y := by rw [getD_lt hlt]; simp [e]
    have hyw : y ∈ w := by rw [e]; simp
    have hyr := hw y hyw
    have c1 := zk0 ht n (a := y) (b := a) hyr ha
    rw [<- hg] at c1
    by_cases hya : y = a
    · subst hya
      refine ⟨fun _ => ?_,fun h => by simp [isFirst] at h⟩
      have hidx : w.idxOf y = P.length := by rw [e]; exact zhn fun hm => (hP y hm).1 rfl
      rw [hidx]
      apply z10b
      case hq => rfl
      all_goals first | exact hg | omega
    · have hfs : isFirst T (y :: S) a = (!T.d y a && isFirst T S a) := by simp [isFirst,hya]
      cases hd : T.d y a with
      | true =>
        refine ⟨(fun h => by rw [hfs,hd] at h; cases h),fun _ => .inl ?_⟩
        apply z10c
        case hq => rfl
        all_goals first | exact c1 | (rw [hg]; first | exact hya | exact hd) | omega
      | false =>
        have ih' := ih (P ++ [y]) (by rw [e]; simp) (fun z hz => by
         rcases List.mem_append.1 hz with hz | hz
         · exact hP z hz
         · simp at hz; subst hz; exact ⟨hya,hd⟩)
        have el : (P ++ [y]).length = P.length + 1 := by simp
        rw [el] at ih'
        have step : ∀ o,WL F.zo 0 Tryz.f77 0 (z2h n t w a (P.length + 1)) o -> WL F.zo 0 Tryz.f77 0 (z2h n t w a P.length) o := by
         intro o ho
         apply z10d
         case hq => exact ho
         all_goals first | exact c1 | (rw [hg]; first | exact hya | exact hd) | (unfold B40 at hl; omega)
        rw [hfs,hd]
        refine ⟨fun h => step _ (ih'.1 (by simpa using h)),fun h => ?_⟩
        rcases ih'.2 (by simpa using h) with h1 | h1
        · exact .inl (step _ h1)
        · exact .inr (step _ h1)
 have h0 := key w [] (by simp) (by simp)
 cases hf : isFirst T w a with
 | true => exact zl8 (h0.1 hf)
 | false =>
   rcases h0.2 hf with h1 | h1
   · exact zl8 h1
   · exact z10a h1
theorem z6i {w : List Int} {a : Int} : w.eraseIdx (w.idxOf a) = w.erase a := (List.erase_eq_eraseIdx_of_idxOf rfl).symm
theorem zak (ht : Tab T m t) {w : List Int} (hw : Wd m w) (hl : w.length <= B40) : Runs X F.z1i [alD m t,lD w] [] (rowR (nform T m w)) := by
 have hs := ht.small
 have loop : ∀ (k : Nat) (out rest : List Int),rest.length = k -> Wd m rest -> out.length + k <= B40 ->
   WL F.z1i 0 Tryz.f56 0 (z7f m t out rest) (zbh (out ++ nfk T m k rest)) := by
  intro k
  induction k with
  | zero =>
    intro out rest hn hr hb
    apply z10i
    case hq => simp [nfk]
    all_goals omega
  | succ k ih =>
    intro out rest hn hr hb
    have hne : rest ≠ [] := by intro e; subst e; cases hn
    have hmem := zdp (T := T) hs hr hne
    have hsome := zdn (T := T) hs hr hne
    obtain ⟨hfst,hr0,hrm⟩ := zdo hsome
    rw [zdy hs hr hne]
    have hf63 : firstM T m rest < 2 ^ 63 := Nat.lt_of_lt_of_le (z3f m _) (Nat.pow_le_pow_right (by omega) (by omega))
    have hlow := (low_bit (zh7 (T := T) hr hne) hf63).2.1
    generalize Go.Lib.ctz 64 (firstM T m rest) = a at *
    have ham : a < m := by omega
    have hbelow : ∀ b,b < a -> isFirst T rest (b : Int) = false := fun b hb => by
     have := hlow b hb
     rw [z2i] at this
     simpa [show b < m by omega] using this
    have inner : WL F.z1i 2 Tryz.f56 1 (z64 m t out rest 0) (zbi m t (out ++ [(a : Int)]) (rest.erase (a : Int))) := by
     refine loop_to (N := a) (st := fun b => z64 m t out rest b) (fun b hb Q hq => ?_) (fun Q hq => ?_)
     · have c1 := z2v ht (m : Int) hr (a := (b : Int)) (by omega) (by omega)
       rw [hbelow b hb] at c1
       apply z10k
       case hq => exact hq
       all_goals first | exact c1 | (unfold B40 at hb; omega) | (simp; done)
     · have c1 := z2v ht (m : Int) hr (a := (a : Int)) (by omega) (by omega)
       rw [hfst] at c1
       have hix : rest.idxOf (a : Int) < rest.length := List.idxOf_lt_length_of_mem hmem
       have c2 := z3q hix (by omega)
       rw [z6i] at c2
       apply z10j
       case hq => exact hq
       all_goals first | exact c1 | exact c2 | (simp only [if_true]; omega) | (unfold B40 at hb; omega)
    apply z10h
    case hq =>
     have := ih (out ++ [(a : Int)]) (rest.erase (a : Int)) (by rw [List.length_erase_of_mem hmem]; omega) (hr.erase _) (by simp; omega)
     rw [List.append_assoc] at this
     exact this
    all_goals first | exact inner | omega
 have h0 := loop w.length [] w rfl hw (by simpa using hl)
 exact z10g (z3p w (by unfold B40 at *; omega)) h0
end
theorem zjp {G : Grp Int} : ∀ {R : List Int},(∀ j,(hj : j < R.length) -> isFirst G.toDep (R.drop (j + 1)) (G.inv R[j]) = false) -> red G R
 | [],_ => trivial
 | s :: R,h => ⟨h 0 (by simp),zjp fun j hj => h (j + 1) (by simpa using hj)⟩
section
variable {n : Nat} {d : List Int}
theorem z8g (h : Al n d) {w : List Int} (hw : Wd (2 * n) w) (hl : w.length <= B40) : Runs X F.z8 [alD (2 * (n : Int)) (dblL n d),lD w] [] (rowR (gnf h w)) := by
 have hs := h.small
 have ht := tab_dbl h
 let M2 : Int := 2 * (n : Int)
 have inner : ∀ (out : List Int) (i : Nat),out.length <= B40 -> Wd (2 * n) out -> (hi : i < out.length) ->
   WL F.z8 2 Tryz.f37 1 (z49 M2 (dblL n d) i out (i + 1)) (if isFirst (grp h).toDep (out.drop (i + 1)) (opp out[i]) then z2z M2 (dblL n d) (-1) (out.take i ++ (out.drop (i + 1)).erase (opp out[i])) else z2z M2 (dblL n d) i out) := by
  intro out i hlen hW hi
  have hx := hW out[i] (List.getElem_mem hi)
  have hg : out.getD (0 + ((i : Int)).toNat) 0 = out[i] := by rw [Nat.zero_add,Int.toNat_natCast,getD_lt hi]
  have c1 := z8f (a := out[i]) (by omega)
  rw [<- hg] at c1
  have hox : opp (out.getD (0 + ((i : Int)).toNat) 0) = opp out[i] := by rw [hg]
  have key : ∀ (S P : List Int),out.drop (i + 1) = P ++ S -> (∀ y ∈ P,y ≠ opp out[i] /\ (grp h).d out[i] y = false) ->
    WL F.z8 2 Tryz.f37 1 (z49 M2 (dblL n d) i out ((i : Int) + 1 + P.length)) (if isFirst (grp h).toDep S (opp out[i]) then z2z M2 (dblL n d) (-1) (out.take i ++ (out.drop (i + 1)).erase (opp out[i])) else z2z M2 (dblL n d) i out) := by
   intro S
   induction S with
   | nil =>
     intro P e hP
     have hlen2 : out.length = i + 1 + P.length := by
      have := congrArg List.length e
      simp at this; omega
     rw [if_neg (by simp [isFirst])]
     apply z12k
     case hq => rfl
     all_goals (unfold B40 at hlen; omega)
   | cons y S ih =>
     intro P e hP
     have hlen2 : out.length = i + 1 + P.length + (S.length + 1) := by
      have := congrArg List.length e
      simp at this; omega
     have hout : out = out.take (i + 1) ++ (P ++ y :: S) := by rw [<- e,List.take_append_drop]
     have hk : i + 1 + P.length < out.length := by omega
     have ek : ((i : Int) + 1 + P.length).toNat = i + 1 + P.length := by omega
     have hgk : out.getD (0 + ((i : Int) + 1 + P.length).toNat) 0 = y := by
      rw [Nat.zero_add,ek,getD_lt hk]
      have : out[i + 1 + P.length]? = some y := by
       rw [hout,List.getElem?_append_right (by simp; omega),List.getElem?_append_right (by simp; omega)]
       have : i + 1 + P.length - (out.take (i + 1)).length - P.length = 0 := by simp; omega
       rw [this]; rfl
      rw [List.getElem?_eq_getElem hk] at this
      exact Option.some.inj this
     have hyw : y ∈ out := by rw [hout]; simp
     have hy := hW y hyw
     have c2 := zk0 ht M2 (a := out[i]) (b := y) hx hy
     rw [<- hg,<- hgk] at c2
     by_cases hyc : y = opp out[i]
     · have hfs : isFirst (grp h).toDep (y :: S) (opp out[i]) = true := by simp [isFirst,hyc]
       rw [if_pos hfs]
       have ekk : ((i : Int) + 1 + P.length) = ((i + 1 + P.length : Nat) : Int) := by omega
       have c3 := z3q hk hlen
       rw [<- ekk] at c3
       have c4 := z3q (w := out.eraseIdx (i + 1 + P.length)) (i := i) (by rw [List.length_eraseIdx_of_lt hk]; omega) (by rw [List.length_eraseIdx_of_lt hk]; omega)
       have hres : (out.eraseIdx (i + 1 + P.length)).eraseIdx i = out.take i ++ (out.drop (i + 1)).erase (opp out[i]) := by
        rw [e,List.erase_append_right _ (fun hm => (hP _ hm).1 rfl),hyc,List.erase_cons_head]
        rw [List.eraseIdx_eq_take_drop_succ,List.eraseIdx_eq_take_drop_succ,List.take_append_of_le_length (by simp; omega),List.take_take,Nat.min_eq_left (by omega)]
        congr 1
        rw [List.drop_append_of_le_length (by simp; omega)]
        have e5 : (out.take (i + 1 + P.length)).drop (i + 1) = P := by
         rw [List.drop_take,e,show i + 1 + P.length - (i + 1) = P.length by omega,List.take_left']
         rfl
        have e6 : out.drop (i + 1 + P.length + 1) = S := by
         have : out.drop (i + 1 + P.length + 1) = (out.drop (i + 1)).drop (P.length + 1) := by rw [List.drop_drop]; congr 1
         rw [this,e,List.drop_append]
         simp
        rw [e5,e6]
       rw [hres] at c4
       apply z12h
       case hq => rfl
       all_goals first | exact c1 | exact c3 | exact c4 | (rw [hgk,hox]; exact hyc) | (unfold B40 at hlen; omega)
     · have hfs : isFirst (grp h).toDep (y :: S) (opp out[i]) = (!(grp h).d out[i] y && isFirst (grp h).toDep S (opp out[i])) := by
        have e1 : (grp h).d y (opp out[i]) = (grp h).d out[i] y := by
         have := Grp.dinv' (G := grp h) y out[i]
         rw [(grp h).sym y out[i]] at this
         exact this
        simp only [isFirst,hyc,decide_false,Bool.false_or,e1]
       cases hd : (grp h).d out[i] y with
       | true =>
         rw [hfs,hd,if_neg (by simp)]
         apply z12i
         case hq => rfl
         all_goals first | exact c1 | exact c2 | (rw [hgk,hox]; exact hyc) | (rw [hg,hgk]; exact hd) | (unfold B40 at hlen; omega)
       | false =>
         rw [hfs,hd]
         have ih' := ih (P ++ [y]) (by rw [e]; simp) (fun z hz => by
          rcases List.mem_append.1 hz with hz | hz
          · exact hP z hz
          · simp at hz; subst hz; exact ⟨hyc,hd⟩)
         have el : ((i : Int) + 1 + (P ++ [y]).length) = (i : Int) + 1 + P.length + 1 := by simp; omega
         rw [el] at ih'
         simp only [Bool.not_false,Bool.true_and]
         apply z12j
         case hq => exact ih'
         all_goals first | exact c1 | exact c2 | (rw [hgk,hox]; exact hyc) | (rw [hg,hgk]; exact hd) | (unfold B40 at hlen; omega)
  have := key (out.drop (i + 1)) [] (by simp) (by simp)
  have e0 : ((i : Int) + 1 + ([] : List Int).length) = (i : Int) + 1 := by simp
  rw [e0] at this
  exact this
 -- the outer loop
 have outer : ∀ (L : Nat) (out : List Int),out.length = L -> L <= B40 -> Wd (2 * n) out -> ∀ (q i : Nat),i + q = out.length -> (∀ j,j < i -> (hj : j < out.length) -> isFirst (grp h).toDep (out.drop (j + 1)) ((grp h).inv out[j]) = false) ->
   ∃ fin : List Int,WL F.z8 0 Tryz.f37 0 (z7k M2 (dblL n d) i out) (zbu M2 (dblL n d) fin) /\ Wd (2 * n) fin /\ fin.length <= L /\ red (grp h) fin /\ teq (grp h).toDep (fold (grp h) out []) (fold (grp h) fin []) := by
  intro L
  induction L using Nat.strongRecOn with
  | _ L ihL =>
    intro out hoL hLB hW q
    induction q with
    | zero =>
      intro i hi hno
      refine ⟨out,?_,hW,by omega,zjp fun j hj => hno j (by omega) hj,teq.refl _⟩
      apply z12g
      case hq => rfl
      all_goals omega
    | succ q ihq =>
      intro i hi hno
      have hil : i < out.length := by omega
      have hin := inner out i (by omega) hW hil
      cases hf : isFirst (grp h).toDep (out.drop (i + 1)) (opp out[i]) with
      | false =>
        rw [hf,if_neg (by simp)] at hin
        obtain ⟨fin,f1,f2,f3,f4,f5⟩ := ihq (i + 1) (by omega) (fun j hj hj2 => by
         by_cases e : j = i
         · subst e; exact hf
         · exact hno j (by omega) hj2)
        refine ⟨fin,?_,f2,f3,f4,f5⟩
        rw [show ((i + 1 : Nat) : Int) = (i : Int) + 1 by omega] at f1
        apply zlp
        case hq => exact f1
        all_goals first | exact hin | (unfold B40 at hLB; omega)
      | true =>
        rw [hf,if_pos rfl] at hin
        obtain ⟨Mm,Bb,hsp,hM⟩ := z6j (G := grp h) hf
        have hMn : opp out[i] ∉ Mm := fun hm => by
         have := hM _ hm
         rw [(grp h).refl] at this; cases this
        have her : (out.drop (i + 1)).erase (opp out[i]) = Mm ++ Bb := by
         rw [hsp,List.erase_append_right _ hMn,List.erase_cons_head]
        have hold : out = out.take i ++ (out[i] :: Mm ++ [(grp h).inv out[i]]) ++ Bb := by
         have : out = out.take i ++ out[i] :: out.drop (i + 1) := by simp
         rw [hsp] at this
         show out = out.take i ++ (out[i] :: Mm ++ [opp out[i]]) ++ Bb
         simpa using this
        rw [her] at hin
        have hlenN : (out.take i ++ (Mm ++ Bb)).length + 2 = out.length := by
         have := congrArg List.length hsp
         simp only [List.length_drop,List.length_append,List.length_cons,List.length_take] at this ⊢
         omega
        have hWN : Wd (2 * n) (out.take i ++ (Mm ++ Bb)) := fun x hx => hW x (by
         rw [hold]
         rcases List.mem_append.1 hx with hx | hx
         · simp [hx]
         · rcases List.mem_append.1 hx with hx | hx <;> simp [hx])
        obtain ⟨fin,f1,f2,f3,f4,f5⟩ := ihL (out.take i ++ (Mm ++ Bb)).length (by omega) _ rfl (by omega) hWN (out.take i ++ (Mm ++ Bb)).length 0 (by omega) (fun j hj => by omega)
        have hcan := zha (G := grp h) (x := out[i]) (out.take i) Mm Bb (fun y hy => by
         have := hM y hy
         have e1 : (grp h).d y (opp out[i]) = (grp h).d out[i] y := by
          have := Grp.dinv' (G := grp h) y out[i]
          rw [(grp h).sym y out[i]] at this
          exact this
         rw [<- e1]; exact this)
        rw [<- hold,List.append_assoc] at hcan
        refine ⟨fin,?_,f2,by omega,f4,hcan.trans f5⟩
        rw [show ((0 : Nat) : Int) = (-1 : Int) + 1 by omega] at f1
        apply zlp
        case hq => exact f1
        all_goals first | exact hin | (unfold B40 at hLB; omega)
 obtain ⟨fin,f1,f2,f3,f4,f5⟩ := outer w.length w rfl hl hw w.length 0 (by omega) (fun j hj => by omega)
 have hfold := zd0 fin.length fin rfl (z4p f4)
 have hte : teq (grp h).toDep (fold (grp h) w []).reverse fin := by
  rw [hfold] at f5
  have := f5.reverse
  rwa [List.reverse_reverse] at this
 have e : gnf h w = nform (grp h).toDep (2 * n) fin := hte.nform _
 rw [e]
 have c := zak ht f2 (by omega)
 have e2 : ((2 * n : Nat) : Int) = 2 * (n : Int) := by omega
 rw [e2] at c
 exact z12f (z3p w (by unfold B40 at *; omega)) f1 c
end
end Go.PR.S

end

section
set_option maxRecDepth 20000
namespace Go.PR.S
open Go Go.PR Go.Proofs Gp
abbrev alR (n : Int) (d : List Int) : Ret := ⟨.agg [.int .i64 n,.rsl 600000 0 d.length],[],[⟨true,.ints .i64 d⟩]⟩
section
variable {n : Nat} {d : List Int}
theorem code_Wd {w : List Int} (hw : ∀ x ∈ w,x ≠ 0 /\ -(n : Int) <= x /\ x <= n) : Wd (2 * n) (w.map code) := fun y hy => by
 obtain ⟨x,hx,rfl⟩ := List.mem_map.1 hy
 have := hw x hx
 unfold code
 split <;> omega
theorem Wd_back {w : List Int} (hw : Wd (2 * n) w) : Wd (2 * n) ((w.map opp).reverse) := fun y hy => by
 obtain ⟨x,hx,rfl⟩ := List.mem_map.1 (List.mem_reverse.1 hy)
 exact Wd_opp hw hx
theorem gnf_len (h : Al n d) {u : List Int} (hu : Wd (2 * n) u) : (gnf h u).length = (fold (grp h) u []).length := by
 unfold gnf
 rw [z86 (fold_Wd hu),List.length_reverse]
theorem gnf_le (h : Al n d) {u : List Int} (hu : Wd (2 * n) u) : (gnf h u).length <= u.length := by
 rw [gnf_len h hu]
 have := zcz (G := grp h) (w := u) (R := [])
 simpa using this
theorem z7n {m : Nat} {u v : List Int} (hu : Wd m u) (hv : Wd m v) : Wd m (u ++ v) := fun x hx => by
 rcases List.mem_append.1 hx with hx | hx
 · exact hu x hx
 · exact hv x hx
end
end Go.PR.S

end
