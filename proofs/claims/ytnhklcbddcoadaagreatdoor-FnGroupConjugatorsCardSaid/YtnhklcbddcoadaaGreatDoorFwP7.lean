/- What the program's functions come to,sixth part: alphabets. -/
import Derived.Test.YtnhklcbddcoadaaGreatDoorFwP5
set_option linter.unusedVariables false
set_option linter.unusedSimpArgs false
set_option linter.unusedSectionVars false
section
set_option maxRecDepth 20000
namespace Go.PR.S
open Go Go.PR Go.Proofs Gp
theorem zcs {q : Nat -> Bool} : ∀ (N : Nat),(∀ j,j < N -> q j = true) \/ ∃ k,k < N /\ q k = false /\ ∀ j,j < k -> q j = true
 | 0 => .inl fun j hj => by omega
 | N + 1 => by
   rcases zcs (q := q) N with h | ⟨k,h1,h2,h3⟩
   · cases hq : q N with
     | true =>
       refine .inl fun j hj => ?_
       by_cases e : j = N
       · rw [e]; exact hq
       · exact h j (by omega)
     | false => exact .inr ⟨N,by omega,hq,h⟩
   · exact .inr ⟨k,by omega,h2,h3⟩
def dm (d : List Int) (a : Nat) : Nat := (d.getD a 0).toNat
def alOK (n : Int) (d : List Int) : Bool :=
 decide (0 <= n /\ n <= 8) && decide ((d.length : Int) = n) && (d.all fun x => decide (0 <= x /\ x <= ((2 ^ d.length : Nat) : Int) - 1)) &&
  (List.range d.length).all fun a => (dm d a).testBit a && (List.range d.length).all fun b => (dm d a).testBit b == (dm d b).testBit a
structure Al (n : Nat) (d : List Int) : Prop where
 small : n <= 8
 len : d.length = n
 mask : ∀ a,a < n -> d.getD a 0 = dm d a /\ dm d a < 2 ^ n
 refl : ∀ a,a < n -> (dm d a).testBit a = true
 sym : ∀ a b,a < n -> b < n -> (dm d a).testBit b = (dm d b).testBit a
theorem Al.of {n : Int} {d : List Int} (h : alOK n d = true) : n = (n.toNat : Nat) /\ Al n.toNat d := by
 unfold alOK at h
 simp only [Bool.and_eq_true,decide_eq_true_eq,List.all_eq_true,List.mem_range,beq_iff_eq] at h
 obtain ⟨⟨⟨h1,h2⟩,h3⟩,h4⟩ := h
 have hn : d.length = n.toNat := by omega
 refine ⟨by omega,⟨by omega,hn,fun a ha => ?_,fun a ha => (h4 a (by omega)).1,fun a b ha hb => (h4 a (by omega)).2 b (by omega)⟩⟩
 have hl : a < d.length := by omega
 have := h3 d[a] (List.getElem_mem hl)
 unfold dm
 rw [getD_lt hl,<- hn]
 have hp := Nat.two_pow_pos d.length
 constructor
 · omega
 · omega
theorem Al.small63 {n : Nat} {d : List Int} (h : Al n d) {a : Nat} (ha : a < n) : dm d a < 2 ^ 63 :=
 Nat.lt_of_lt_of_le (h.mask a ha).2 (Nat.pow_le_pow_right (by omega) (by have := h.small; omega))
theorem zvu (d : List Int) (hd : d.length <= 8) : Runs X F.z6m [lD d] [] (boolR (d.all fun x => decide (0 <= x /\ x <= ((2 ^ d.length : Nat) : Int) - 1))) := by
 have h1 : (2 ^ d.length : Nat) <= 2 ^ 8 := Nat.pow_le_pow_right (by omega) hd
 have hp := Nat.two_pow_pos d.length
 have h2 := zjx d 0 (((2 ^ d.length : Nat) : Int) - 1) (by unfold B40; omega)
 exact zpw (by omega) (z8h d) (zam (by omega)) (by omega) (by omega) h2
def col (d : List Int) (i k : Nat) : Nat := mkM (fun a => (dm d a).testBit k) i
def cvL (d : List Int) : List Int := (List.range d.length).map fun k => ((col d d.length k : Nat) : Int)
theorem col_lt (d : List Int) (i k : Nat) : col d i k < 2 ^ i := mkM_lt _ _
def cvI (d : List Int) (i j : Nat) : List Int := (List.range d.length).map fun k => ((col d i k ||| (if k ∈ (bitsN (dm d i)).take j then 2 ^ i else 0) : Nat) : Int)
theorem cvI_get {d : List Int} {i j k : Nat} (hk : k < d.length) : (cvI d i j).getD k 0 = ((col d i k ||| (if k ∈ (bitsN (dm d i)).take j then 2 ^ i else 0) : Nat) : Int) := by
 unfold cvI
 rw [getD_lt (by simpa using hk)]
 simp
theorem zno {d : List Int} {i : Nat} (h : dm d i < 2 ^ 63) : cvI d i (bitsN (dm d i)).length = cvI d (i + 1) 0 := by
 unfold cvI
 apply List.map_congr_left
 intro k hk
 rw [List.take_length,List.take_zero]
 simp only [List.not_mem_nil,if_false,Nat.or_zero]
 congr 1
 show _ = mkM _ i ||| _
 by_cases hb : (dm d i).testBit k = true
 · rw [if_pos ((z5r h).2 hb),if_pos hb]; rfl
 · rw [if_neg (fun hm => hb ((z5r h).1 hm)),if_neg hb]; rfl
theorem cvI_set {d : List Int} {i j : Nat} (hi : i <= 61) (hj : j < (bitsN (dm d i)).length) (hk : (bitsN (dm d i))[j] < d.length) :
  (cvI d i j).set (bitsN (dm d i))[j] (ior ((cvI d i j).getD (bitsN (dm d i))[j] 0) ((2 ^ i : Nat) : Int)) = cvI d i (j + 1) := by
 have b1 : ∀ k,(col d i k ||| (if k ∈ (bitsN (dm d i)).take j then 2 ^ i else 0)) < 2 ^ 63 := fun k => by
  refine Nat.or_lt_two_pow ?_ ?_
  · exact Nat.lt_of_lt_of_le (col_lt d i k) (Nat.pow_le_pow_right (by omega) (by omega))
  · split
    · exact pow62 (by omega)
    · omega
 apply List.ext_getElem
 · simp [cvI]
 · intro k h1 h2
   have hkd : k < d.length := by simpa [cvI] using h2
   rw [List.getElem_set]
   have e2 : (cvI d i (j + 1))[k] = ((col d i k ||| (if k ∈ (bitsN (dm d i)).take (j + 1) then 2 ^ i else 0) : Nat) : Int) := by
    rw [<- getD_lt h2]; exact cvI_get hkd
   rw [e2,List.take_succ_eq_append_getElem hj]
   split
   · rename_i e
     subst e
     rw [cvI_get hk,ior_nat (b1 _) (pow62 (by omega))]
     congr 1
     apply Nat.eq_of_testBit_eq
     intro q
     simp only [Nat.testBit_or,List.mem_append,List.mem_singleton,or_true,if_true]
     split <;> simp
   · rename_i e
     have e3 : (cvI d i j)[k]'(by simpa [cvI] using hkd) = ((col d i k ||| (if k ∈ (bitsN (dm d i)).take j then 2 ^ i else 0) : Nat) : Int) := by
      rw [<- getD_lt (by simpa [cvI] using hkd)]; exact cvI_get hkd
     rw [e3]
     have : (k ∈ (bitsN (dm d i)).take j ++ [(bitsN (dm d i))[j]]) ↔ k ∈ (bitsN (dm d i)).take j := by
      rw [List.mem_append,List.mem_singleton]
      exact ⟨fun h => h.resolve_right (fun e' => e e'.symm),.inl⟩
     simp only [this]
theorem zfw {m j : Nat} (h : j < (bitsN m).length) : (bitsL m).getD j 0 = (((bitsN m)[j] : Nat) : Int) := by
 unfold bitsL
 rw [getD_lt (by simpa using h)]; simp
theorem zfy (m : Nat) : (bitsN m).length <= 63 := by
 unfold bitsN
 exact Nat.le_trans (List.length_filter_le _ _) (by simp)
theorem zw0 {d : List Int} (hl : d.length <= 24) (hd : ∀ x ∈ d,0 <= x /\ x <= ((2 ^ d.length : Nat) : Int) - 1) : Runs X F.z1g [lD d] [] (rowR (cvL d)) := by
 have hdm : ∀ a,a < d.length -> d.getD a 0 = dm d a /\ dm d a < 2 ^ d.length := fun a ha => by
  have := hd d[a] (List.getElem_mem ha)
  unfold dm
  rw [getD_lt ha]
  have hp := Nat.two_pow_pos d.length
  constructor <;> omega
 have clen : ∀ i j,(cvI d i j).length = d.length := fun i j => by simp [cvI]
 have e0 : List.replicate d.length 0 = cvI d 0 0 := by
  apply List.ext_getElem
  · simp [cvI]
  · intro k h1 h2
    have hk : k < d.length := by simpa using h1
    rw [<- getD_lt h2,cvI_get hk]
    simp [col,mkM]
 have eN : cvI d d.length 0 = cvL d := by
  unfold cvI cvL
  apply List.map_congr_left
  intro k hk
  simp
 have hres := zqj (d := d) (r3az := cvL d) (by omega) (by
  rw [e0]
  refine loop_to (N := d.length) (st := fun i => z6p d i (cvI d i 0)) (fun i hi Q hq => ?_) (fun Q hq => ?_)
  · obtain ⟨hm1,hm2⟩ := hdm i hi
    have h63 : dm d i < 2 ^ 63 := Nat.lt_of_lt_of_le hm2 (Nat.pow_le_pow_right (by omega) (by omega))
    have c1 := z8i h63
    rw [<- hm1] at c1
    have hlen : (bitsN (dm d i)).length = (bitsL (dm d i)).length := by simp [bitsL]
    have hb63 := zfy (dm d i)
    have hin : WL F.z1g 2 Tryz.f114 1 (z5c d i (bitsL (dm d i)) 0 (cvI d i 0)) (z9g d i (cvI d (i + 1) 0)) := by
     refine loop_to (N := (bitsN (dm d i)).length) (st := fun j => z5c d i (bitsL (dm d i)) j (cvI d i j)) (fun j hj Q hq => ?_) (fun Q hq => ?_)
     · have hg := zfw hj
       have hbit := (z5r h63).1 (List.getElem_mem hj)
       have hklt : (bitsN (dm d i))[j] < d.length := bit_lt hm2 hbit
       have c2 := zam (i := i) (by omega)
       apply zqm
       case hq =>
        simp only [Nat.zero_add,hg,Int.toNat_natCast]
        rw [cvI_set (by omega) hj hklt]
        exact hq
       all_goals first | exact c1 | exact c2 | exact clen i j | (rw [Nat.zero_add,hg]; omega) | (rw [<- hlen]; omega) | omega
     · rw [zno h63]
       apply zqn
       case hq => exact hq
       all_goals first | exact c1 | exact clen _ _ | (rw [<- hlen]; omega) | omega
    apply zqk
    case hq => exact hq
    all_goals first | exact c1 | exact hin | exact clen _ _ | omega
  · rw [eN]
    apply zql
    case hq => exact hq
    all_goals first | (rw [<- eN]; exact clen _ _) | omega)
 have : d.length = (cvL d).length := by simp [cvL]
 unfold rowR
 rw [<- this]
 exact hres
theorem zgp {d : List Int} {k : Nat} (hk : k < d.length) (hm : d.getD k 0 = dm d k) (hlt : dm d k < 2 ^ d.length) :
  (cvL d).getD k 0 = d.getD k 0 ↔ ((List.range d.length).all fun b => (dm d k).testBit b == (dm d b).testBit k) = true := by
 have e1 : (cvL d).getD k 0 = ((col d d.length k : Nat) : Int) := by
  unfold cvL; rw [getD_lt (by simpa using hk)]; simp
 rw [e1,hm,List.all_eq_true]
 constructor
 · intro h b hb
   have h' : col d d.length k = dm d k := by omega
   have := congrArg (fun x => x.testBit b) h'
   simp only [col,mkM_bit] at this
   rw [<- this]
   simp [List.mem_range.1 hb]
 · intro h
   congr 1
   apply Nat.eq_of_testBit_eq
   intro b
   rw [col,mkM_bit]
   by_cases hb : b < d.length
   · have := h b (List.mem_range.2 hb)
     simp only [beq_iff_eq] at this
     simp [hb,this]
   · rw [Nat.testBit_lt_two_pow (Nat.lt_of_lt_of_le hlt (Nat.pow_le_pow_right (by omega) (by omega)))]
     simp [hb]
theorem zvs (n : Int) (d : List Int) (hl : d.length <= B40) : Runs X F.z1f [alD n d] [] (boolR (alOK n d)) := by
 have c1 := zah n 0 8
 by_cases h1 : 0 <= n /\ n <= 8
 · by_cases h2 : (d.length : Int) = n
   · have c3 := zvu d (by omega)
     cases h3 : (d.all fun x => decide (0 <= x /\ x <= ((2 ^ d.length : Nat) : Int) - 1)) with
     | false =>
       have : alOK n d = false := by unfold alOK; rw [h3]; simp
       rw [this]
       rw [h3] at c3
       exact zpm c1 (by simpa using h1) (z8h d) h2 c3 rfl
     | true =>
       rw [h3] at c3
       have hd : ∀ x ∈ d,0 <= x /\ x <= ((2 ^ d.length : Nat) : Int) - 1 := fun x hx => by simpa using List.all_eq_true.1 h3 x hx
       have hdm : ∀ a,a < d.length -> d.getD a 0 = dm d a /\ dm d a < 2 ^ d.length := fun a ha => by
        have := hd d[a] (List.getElem_mem ha)
        unfold dm
        rw [getD_lt ha]
        have hp := Nat.two_pow_pos d.length
        constructor <;> omega
       have c4 := zw0 (by omega) hd
       have clen : (cvL d).length = d.length := by simp [cvL]
       have hlp := z5n (f := F.z1f) (b := 0) (body := lb Tryz.f81 0) (N := d.length) (oF := z6l) (oT := z9d) (st := fun i => z3j n d (cvL d) i)
        (p := fun a => (dm d a).testBit a && (List.range d.length).all fun b => (dm d a).testBit b == (dm d b).testBit a)
        (fun i hi hp Q hq => ?_) (fun i hi hp Q hq => ?_) (fun Q hq => ?_)
       · have e : alOK n d = ((List.range d.length).all fun a => (dm d a).testBit a && (List.range d.length).all fun b => (dm d a).testBit b == (dm d b).testBit a) := by
          unfold alOK; rw [h3]; simp [h1,h2]
         rw [e]
         cases hb : ((List.range d.length).all fun a => (dm d a).testBit a && (List.range d.length).all fun b => (dm d a).testBit b == (dm d b).testBit a) with
         | true => rw [hb] at hlp; exact zpo c1 (by simpa using h1) (z8h d) h2 c3 rfl c4 hlp
         | false => rw [hb] at hlp; exact zpn c1 (by simpa using h1) (z8h d) h2 c3 rfl c4 hlp
       · obtain ⟨m1,m2⟩ := hdm i hi
         have h63 : dm d i < 2 ^ 63 := Nat.lt_of_lt_of_le m2 (Nat.pow_le_pow_right (by omega) (by omega))
         simp only [Bool.and_eq_true] at hp
         have hcv := (zgp hi m1 m2).2 hp.2
         have c5 := z74 (i := i) h63
         rw [<- m1,<- hcv] at c5
         have hbt : tb ((cvL d).getD i 0) i = true := by rw [hcv,m1]; unfold tb; simpa using hp.1
         apply zpr
         case hq => exact hq
         all_goals first | exact c4 | (rw [Nat.zero_add]; first | exact c5 | exact hcv) | exact hbt | (unfold B40 at hl; omega)
       · obtain ⟨m1,m2⟩ := hdm i hi
         have h63 : dm d i < 2 ^ 63 := Nat.lt_of_lt_of_le m2 (Nat.pow_le_pow_right (by omega) (by omega))
         by_cases hcv : (cvL d).getD i 0 = d.getD i 0
         · have hp2 := (zgp hi m1 m2).1 hcv
           have hp1 : (dm d i).testBit i = false := by
            cases hh : (dm d i).testBit i with
            | false => rfl
            | true => simp only [hh,hp2,Bool.and_self] at hp; cases hp
           have c5 := z74 (i := i) h63
           rw [<- m1,<- hcv] at c5
           have hbt : tb ((cvL d).getD i 0) i = false := by rw [hcv,m1]; unfold tb; simpa using hp1
           apply zpq
           case hq => exact hq
           all_goals first | exact c4 | (rw [Nat.zero_add]; first | exact c5 | exact hcv) | exact hbt | (unfold B40 at hl; omega)
         · apply zpp
           case hq => exact hq
           all_goals first | exact c4 | (rw [Nat.zero_add]; exact hcv) | (unfold B40 at hl; omega)
       · apply zps
         case hq => exact hq
         all_goals first | exact c4 | (unfold B40 at hl; omega)
   · have : alOK n d = false := by unfold alOK; simp [h2]
     rw [this]
     exact zpl c1 (by simpa using h1) (z8h d) h2
 · have : alOK n d = false := by unfold alOK; simp [h1]
   rw [this]
   exact zpk c1 (by simpa using h1)
end Go.PR.S

end

section
set_option maxRecDepth 20000
namespace Go.PR.S
open Go Go.PR Go.Proofs Gp
theorem zm9 {i : Nat} (h : i < 2 ^ 63) : IntKind.u64.wrap (i : Int) = i := by rw [IntKind.wrap_u64]; omega
theorem z8d (n a b : Int) : Runs X F.z2g [iD n,iD a,iD b] [] (boolR (decide (a <= n /\ n <= b))) := by
 by_cases h : a <= n
 · have : decide (a <= n /\ n <= b) = decide (n <= b) := by simp [h]
   rw [this]; exact zym h
 · have : decide (a <= n /\ n <= b) = false := by simp [h]
   rw [this]; exact zyn h
theorem zai {m i : Nat} (h : m < 2 ^ 63) (hi : i < 2 ^ 63) : Runs X F.z2f [iD m,iD i] [] (boolR (tb m i)) := by
 have e := zm9 hi
 have := zyf (m := (m : Int)) (i := (i : Int)) (by rw [e]; omega)
 rw [e,has_nat h] at this
 exact this
theorem z5x {i : Nat} (h : i <= 62) : Runs X F.z2w [iD i] [] (intR ((2 ^ i : Nat) : Int)) := by
 have h1 := one_nat h
 have h2 := pow62 h
 have e := zm9 (i := i) (by omega)
 have h3 : ((2 ^ i : Nat) : Int) < ((2 ^ 63 : Nat) : Int) := Int.ofNat_lt.2 h2
 have h4 : (0 : Int) <= ((2 ^ i : Nat) : Int) := Int.natCast_nonneg _
 have := zyx (i := (i : Int)) (by rw [e]; omega) (by rw [e,h1]; omega) (by rw [e,h1]; omega)
 rw [e,h1] at this
 exact this
theorem zw4 {i : Nat} (h : i <= 62) : Runs X F.z8r [iD i] [] (intR (((2 ^ i : Nat) : Int) - 1)) := by
 have h2 := pow62 h
 have h3 : ((2 ^ i : Nat) : Int) < ((2 ^ 63 : Nat) : Int) := Int.ofNat_lt.2 h2
 have h4 : (0 : Int) <= ((2 ^ i : Nat) : Int) := Int.natCast_nonneg _
 exact zyl (z5x h) (by omega) (by omega)
theorem zw5 {n : Nat} (hn : n <= 62) (d : List Int) (hl : d.length <= B40) : Runs X F.z23 [iD n,lD d] [] (boolR (d.all fun x => decide (0 <= x /\ x <= ((2 ^ n : Nat) : Int) - 1))) := by
 have c1 := zw4 hn
 have hlp := z5n (f := F.z23) (b := 0) (body := lb Tryz.f126 0) (N := d.length) (oF := zb4) (oT := zb5) (st := fun i => z50 n d i)
  (p := fun i => decide (0 <= d.getD i 0 /\ d.getD i 0 <= ((2 ^ n : Nat) : Int) - 1)) (fun i hi hp Q hq => ?_) (fun i hi hp Q hq => ?_) (fun Q hq => ?_)
 · rw [zab (l := d) (q := fun x => decide (0 <= x /\ x <= ((2 ^ n : Nat) : Int) - 1))] at hlp
   cases hb : (d.all fun x => decide (0 <= x /\ x <= ((2 ^ n : Nat) : Int) - 1)) with
   | true => rw [hb] at hlp; exact zyp hlp
   | false => rw [hb] at hlp; exact zyo hlp
 · have c2 := z8d (d.getD i 0) 0 (((2 ^ n : Nat) : Int) - 1)
   apply zyr
   case hq => exact hq
   all_goals first | exact c1 | exact c2 | exact hp | (unfold B40 at hl; omega)
 · have c2 := z8d (d.getD i 0) 0 (((2 ^ n : Nat) : Int) - 1)
   apply zyq
   case hq => exact hq
   all_goals first | exact c1 | exact c2 | exact hp | (unfold B40 at hl; omega)
 · apply zys
   case hq => exact hq
   all_goals (unfold B40 at hl; omega)
theorem zee (n : Int) (d : List Int) (hl : d.length <= B40) : Runs X F.za [alD n d] [] (boolR (alOK n d)) := by
 have c1 := z8d n 0 8
 by_cases h1 : 0 <= n /\ n <= 8
 · by_cases h2 : (d.length : Int) = n
   · have c3 := zw5 (n := d.length) (by omega) d hl
     rw [h2] at c3
     cases h3 : (d.all fun x => decide (0 <= x /\ x <= ((2 ^ d.length : Nat) : Int) - 1)) with
     | false =>
       have : alOK n d = false := by unfold alOK; rw [h3]; simp
       rw [this]
       rw [h3] at c3
       exact zzp c1 (by simpa using h1) h2 c3 rfl
     | true =>
       rw [h3] at c3
       have hd : ∀ x ∈ d,0 <= x /\ x <= ((2 ^ d.length : Nat) : Int) - 1 := fun x hx => by simpa using List.all_eq_true.1 h3 x hx
       have hdm : ∀ a,a < d.length -> d.getD a 0 = dm d a /\ dm d a < 2 ^ 63 := fun a ha => by
        have := hd d[a] (List.getElem_mem ha)
        have hpw : (2 ^ d.length : Nat) <= 2 ^ 63 := Nat.pow_le_pow_right (by omega) (by omega)
        unfold dm
        rw [getD_lt ha]
        have hp := Nat.two_pow_pos d.length
        constructor <;> omega
       have cb : ∀ a b,a < d.length -> b < d.length -> Runs X F.z2f [iD (d.getD a 0),iD b] [] (boolR ((dm d a).testBit b)) := fun a b ha hb => by
        have := zai (hdm a ha).2 (i := b) (by omega)
        rw [<- (hdm a ha).1] at this
        have e : tb (d.getD a 0) b = (dm d a).testBit b := by rw [(hdm a ha).1]; unfold tb; simp
        rw [e] at this
        exact this
       have hin : ∀ a,a < d.length -> WpL X F.za 2 (lb Tryz.f96 1) (z42 n d a 0).st (fun o => o = (if ((List.range d.length).all fun b => (dm d a).testBit b == (dm d b).testBit a) then zbd n d a else zbc n d a).out) := by
        intro a ha
        refine z5n (N := d.length) (st := fun j => z42 n d a j) (fun i hi hp Q hq => ?_) (fun i hi hp Q hq => ?_) (fun Q hq => ?_)
        · have c4 := cb a i ha hi
          have c5 := cb i a hi ha
          apply zzx
          case hq => exact hq
          all_goals first | exact c4 | exact c5 | exact (beq_iff_eq.1 hp) | (unfold B40 at hl; omega)
        · have c4 := cb a i ha hi
          have c5 := cb i a hi ha
          apply zzw
          case hq => exact hq
          all_goals first | exact c4 | exact c5 | (intro e; rw [e] at hp; simp at hp; done) | (unfold B40 at hl; omega)
        · apply zzy
          case hq => exact hq
          all_goals (unfold B40 at hl; omega)
       have hlp := z5n (f := F.za) (b := 0) (body := lb Tryz.f96 0) (N := d.length) (oF := z7d) (oT := zbb) (st := fun i => z41 n d i)
        (p := fun a => (dm d a).testBit a && (List.range d.length).all fun b => (dm d a).testBit b == (dm d b).testBit a)
        (fun i hi hp Q hq => ?_) (fun i hi hp Q hq => ?_) (fun Q hq => ?_)
       · have e : alOK n d = ((List.range d.length).all fun a => (dm d a).testBit a && (List.range d.length).all fun b => (dm d a).testBit b == (dm d b).testBit a) := by
          unfold alOK; rw [h3]; simp [h1,h2]
         rw [e]
         cases hb : ((List.range d.length).all fun a => (dm d a).testBit a && (List.range d.length).all fun b => (dm d a).testBit b == (dm d b).testBit a) with
         | true => rw [hb] at hlp; exact zzr c1 (by simpa using h1) h2 c3 rfl hlp
         | false => rw [hb] at hlp; exact zzq c1 (by simpa using h1) h2 c3 rfl hlp
       · simp only [Bool.and_eq_true] at hp
         have c4 := cb i i hi hi
         have hi' := hin i hi
         rw [if_pos hp.2] at hi'
         apply zzu
         case hq => exact hq
         all_goals first | exact c4 | exact hi' | exact hp.1 | (unfold B40 at hl; omega)
       · have c4 := cb i i hi hi
         cases hd1 : (dm d i).testBit i with
         | false =>
           apply zzs
           case hq => exact hq
           all_goals first | exact c4 | exact hd1 | (unfold B40 at hl; omega)
         | true =>
           have hp2 : ¬ ((List.range d.length).all fun b => (dm d i).testBit b == (dm d b).testBit i) = true := fun h => by
            simp only [hd1,h,Bool.and_self] at hp; cases hp
           have hi' := hin i hi
           rw [if_neg hp2] at hi'
           apply zzt
           case hq => exact hq
           all_goals first | exact c4 | exact hi' | exact hd1 | (unfold B40 at hl; omega)
       · apply zzv
         case hq => exact hq
         all_goals (unfold B40 at hl; omega)
   · have : alOK n d = false := by unfold alOK; simp [h2]
     rw [this]
     exact zzo c1 (by simpa using h1) h2
 · have : alOK n d = false := by unfold alOK; simp [h1]
   rw [this]
   exact zzn c1 (by simpa using h1)
def sgOK (n : Int) (w : List Int) : Bool := decide (w.length <= 24) && w.all fun x => decide (x ≠ 0 /\ -n <= x /\ x <= n)
theorem sgOK_bd {n : Int} {w : List Int} (hn : n <= 8) (h : sgOK n w = true) : w.length <= 24 /\ Bd w /\ ∀ x ∈ w,x ≠ 0 /\ -n <= x /\ x <= n := by
 unfold sgOK at h
 simp only [Bool.and_eq_true,decide_eq_true_eq,List.all_eq_true] at h
 exact ⟨h.1,fun x hx => by have := h.2 x hx; omega,fun x hx => h.2 x hx⟩
theorem zw1 {n : Int} (hn : 0 <= n /\ n <= 8) (d w : List Int) (hl : w.length <= B40) : Runs X F.z6r [alD n d,lD w] [] (boolR (sgOK n w)) := by
 by_cases h1 : w.length <= 24
 · have c1 := zjx w (-n) n hl
   have c2 := zvn w 0 hl
   cases h2 : (w.all fun x => decide (-n <= x /\ x <= n)) with
   | true =>
     rw [h2] at c1
     have e : sgOK n w = !decide (0 ∈ w) := by
      unfold sgOK
      rw [Bool.eq_iff_iff]
      simp only [Bool.and_eq_true,decide_eq_true_eq,List.all_eq_true,Bool.not_eq_true',decide_eq_false_iff_not]
      simp only [List.all_eq_true,decide_eq_true_eq] at h2
      exact ⟨fun h hm => (h.2 0 hm).1 rfl,fun h => ⟨h1,fun x hx => ⟨fun e => h (e ▸ hx),h2 x hx⟩⟩⟩
     rw [e]
     exact zqy (by omega) (by omega) (by omega) c1 rfl c2
   | false =>
     rw [h2] at c1
     have e : sgOK n w = false := by
      unfold sgOK
      cases hh : (w.all fun x => decide (x ≠ 0 /\ -n <= x /\ x <= n)) with
      | false => simp
      | true =>
        have : (w.all fun x => decide (-n <= x /\ x <= n)) = true := by
         simp only [List.all_eq_true,decide_eq_true_eq] at hh ⊢
         exact fun x hx => (hh x hx).2
        rw [h2] at this; cases this
     rw [e]
     exact zqz (by omega) (by omega) (by omega) c1 rfl
 · have e : sgOK n w = false := by unfold sgOK; simp [h1]
   rw [e]
   exact zr0 (by omega)
theorem zej {n : Int} (hn : 0 <= n /\ n <= 8) (w : List Int) (hl : w.length <= B40) : Runs X F.z1d [iD n,lD w] [] (boolR (sgOK n w)) := by
 by_cases h1 : w.length <= 24
 · have hlp := z5n (f := F.z1d) (b := 0) (body := lb Tryz.f106 0) (N := w.length) (oF := z7m) (oT := zbw) (st := fun i => z4a n w i)
    (p := fun i => decide (w.getD i 0 ≠ 0 /\ -n <= w.getD i 0 /\ w.getD i 0 <= n)) (fun i hi hp Q hq => ?_) (fun i hi hp Q hq => ?_) (fun Q hq => ?_)
   · rw [zab (l := w) (q := fun x => decide (x ≠ 0 /\ -n <= x /\ x <= n))] at hlp
     have e : sgOK n w = (w.all fun x => decide (x ≠ 0 /\ -n <= x /\ x <= n)) := by unfold sgOK; simp [h1]
     rw [e]
     cases hb : (w.all fun x => decide (x ≠ 0 /\ -n <= x /\ x <= n)) with
     | true => rw [hb] at hlp; exact z131 (by omega) hlp
     | false => rw [hb] at hlp; exact z130 (by omega) hlp
   · have c1 := z8d (w.getD i 0) (-n) n
     simp only [decide_eq_true_eq] at hp
     apply z134
     case hq => exact hq
     all_goals first | exact c1 | (simp only [decide_eq_true_eq]; omega) | (unfold B40 at hl; omega)
   · have c1 := z8d (w.getD i 0) (-n) n
     simp only [decide_eq_false_iff_not] at hp
     by_cases h0 : w.getD i 0 = 0
     · apply z132
       case hq => exact hq
       all_goals (unfold B40 at hl; omega)
     · apply z133
       case hq => exact hq
       all_goals first | exact c1 | (simp only [decide_eq_false_iff_not]; omega) | (unfold B40 at hl; omega)
   · apply z135
     case hq => exact hq
     all_goals (unfold B40 at hl; omega)
 · have e : sgOK n w = false := by unfold sgOK; simp [h1]
   rw [e]
   exact z12z (by omega)
def sgCode (n : Int) (d : List Int) (ws : List (List Int)) : Int := if alOK n d then (if ws.all (sgOK n) then 0 else 2) else 1
theorem alOK_n {n : Int} {d : List Int} (h : alOK n d = true) : 0 <= n /\ n <= 8 := by
 obtain ⟨h1,h2⟩ := Al.of h
 have := h2.small
 omega
theorem zwb (n : Int) (d u v : List Int) (hd : d.length <= B40) (hu : u.length <= B40) (hv : v.length <= B40) : Runs X F.z45 [alD n d,lD u,lD v] [] (intR (sgCode n d [u,v])) := by
 have c1 := zee n d hd
 unfold sgCode
 cases h1 : alOK n d with
 | false => rw [h1] at c1; exact z118 c1 rfl
 | true =>
   rw [h1] at c1
   have hn := alOK_n h1
   have c2 := zej hn u hu
   have c3 := zej hn v hv
   cases h2 : sgOK n u with
   | false => rw [h2] at c2; simp [h2]; exact z119 c1 rfl c2 rfl
   | true =>
     rw [h2] at c2
     cases h3 : sgOK n v with
     | false => rw [h3] at c3; simp [h2,h3]; exact z11a c1 rfl c2 rfl c3 rfl
     | true => rw [h3] at c3; simp [h2,h3]; exact z11b c1 rfl c2 rfl c3 rfl
theorem z73 (n : Int) (d : List Int) (ws : List (List Int)) (hd : d.length <= B40) (hs : ws.length <= B40) (hw : ∀ w ∈ ws,w.length <= B40) : Runs X F.zd [alD n d,.imm2 .i64 ws] [] (intR (sgCode n d ws)) := by
 have c1 := zvs n d hd
 unfold sgCode
 cases h1 : alOK n d with
 | false => rw [h1] at c1; exact zq5 c1 rfl
 | true =>
   rw [h1] at c1
   have hn := alOK_n h1
   have c2 : ∀ i,i < ws.length -> Runs X F.z20 [lD (ws.getD i []),.pim [iD n,lD d]] [] (boolR (!sgOK n (ws.getD i []))) := fun i hi => by
    refine zq9 (zw1 hn d _ ?_)
    rw [List.getD_eq_getElem?_getD,List.getElem?_eq_getElem hi]
    exact hw _ (List.getElem_mem hi)
   have hall : ws.all (sgOK n) = (List.range ws.length).all fun i => sgOK n (ws.getD i []) := by
    rw [Bool.eq_iff_iff,List.all_eq_true,List.all_eq_true]
    constructor
    · intro h i hi
      have hi := List.mem_range.1 hi
      rw [List.getD_eq_getElem?_getD,List.getElem?_eq_getElem hi]
      exact h _ (List.getElem_mem hi)
    · intro h x hx
      obtain ⟨i,hi,rfl⟩ := List.getElem_of_mem hx
      have := h i (List.mem_range.2 hi)
      rwa [List.getD_eq_getElem?_getD,List.getElem?_eq_getElem hi] at this
   rcases zcs (q := fun i => sgOK n (ws.getD i [])) ws.length with h | ⟨k,hk1,hk2,hk3⟩
   · have ht : ws.all (sgOK n) = true := by rw [hall]; exact List.all_eq_true.2 fun i hi => h i (List.mem_range.1 hi)
     have hx : Runs X F.z2o [.imm2 .i64 ws,.fn F.z20 [.pim [iD n,lD d]]] [] (intR (-1)) := by
      refine zxe (loop_to (N := ws.length) (st := fun i => z3t ws n d i) (fun i hi Q hq => ?_) (fun Q hq => ?_))
      · have c := c2 i hi
        have e := h i hi
        apply zkr
        case hq => exact hq
        all_goals first | exact c | (rw [e]; rfl) | (unfold B40 at hs; omega)
      · apply zxg
        case hq => exact hq
        all_goals (unfold B40 at hs; omega)
     have hc := zkm hx
     rw [ht]
     exact zq7 c1 rfl hc (by simp)
   · have ht : ws.all (sgOK n) = false := by
      cases hh : ws.all (sgOK n) with
      | false => rfl
      | true =>
        rw [hall] at hh
        have := List.all_eq_true.1 hh k (List.mem_range.2 hk1)
        rw [hk2] at this; cases this
     have hx : Runs X F.z2o [.imm2 .i64 ws,.fn F.z20 [.pim [iD n,lD d]]] [] (intR k) := by
      refine zxd (loop_to (N := k) (st := fun i => z3t ws n d i) (fun i hi Q hq => ?_) (fun Q hq => ?_))
      · have c := c2 i (by omega)
        have e := hk3 i hi
        apply zkr
        case hq => exact hq
        all_goals first | exact c | (rw [e]; rfl) | (unfold B40 at hs; omega)
      · have c := c2 k hk1
        apply zxf
        case hq => exact hq
        all_goals first | exact c | (rw [hk2]; rfl) | (unfold B40 at hs; omega)
     have hc := zkm hx
     rw [ht]
     exact zq6 c1 rfl hc (by simp)
end Go.PR.S

end
