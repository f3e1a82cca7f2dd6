/- What the program's functions come to,first part: bits,lists. -/
import Derived.Test.YtnhklcbddcoadaaGreatDoorFwG1
import Derived.Test.YtnhklcbddcoadaaGreatDoorFwG3
import Derived.Test.YtnhklcbddcoadaaGreatDoorFwMk
import Derived.Laws.Bits64
import Derived.Test.YtnhklcbddcoadaaGreatDoorGrK
import Derived.Test.YtnhklcbddcoadaaGreatDoorFwG2
set_option linter.unusedVariables false
set_option linter.unusedSimpArgs false
set_option linter.unusedSectionVars false
section
set_option maxRecDepth 20000
namespace Go.PR.S
open Go Go.PR Go.Proofs
theorem X_prim : X.prim = prim := rfl
theorem zam {i : Nat} (h : i <= 62) : Runs X F.z5d [iD i] [] (intR ((2 ^ i : Nat) : Int)) := by
 have h1 := one_nat h
 have h2 := pow62 h
 rw [<- h1]
 have h3 : ((2 ^ i : Nat) : Int) < ((2 ^ 63 : Nat) : Int) := Int.ofNat_lt.2 h2
 have h4 : (0 : Int) <= ((2 ^ i : Nat) : Int) := Int.natCast_nonneg _
 rw [<- h1] at h3 h4
 exact zr9 (by omega) (by omega) (by omega)
theorem z74 {m i : Nat} (h : m < 2 ^ 63) : Runs X F.z21 [iD m,iD i] [] (boolR (tb m i)) := by
 rw [<- has_nat h]
 exact zqr (by omega)
theorem zah (n a b : Int) : Runs X F.z2j [iD n,iD a,iD b] [] (boolR (decide (a <= n /\ n <= b))) := by
 by_cases h : a <= n
 · have : decide (a <= n /\ n <= b) = decide (n <= b) := by simp [h]
   rw [this]; exact zqs h
 · have : decide (a <= n /\ n <= b) = false := by simp [h]
   rw [this]; exact zqt h
theorem z8h (w : List Int) : Runs X F.z4j [lD w] [] (intR w.length) := zr4
theorem zoa {X : Ctx} {f : FuncId} {args : List D} {prows : List Row} {r : Ret} (h : X.prim f args prows = some r) (k : Nat) : evalFn X (k + 1) f args prows = some r := by
 simp only [evalFn,h]
theorem Runs.prim {X : Ctx} {f : FuncId} {args : List D} {prows : List Row} {r : Ret} (h : X.prim f args prows = some r) : Runs X f args prows r :=
 ⟨1,fun k hk => by obtain ⟨k,rfl⟩ : ∃ k',k = k' + 1 := ⟨k - 1,by omega⟩; exact zoa h k⟩
theorem prim_tz {x : Int} (h : 0 <= x /\ x < 18446744073709551616) : prim F.z8y [.int .u64 x] [] = some (intR (Lib.ctz 64 x.toNat)) := by
 unfold prim
 rw [if_neg (by decide),if_pos rfl]
 exact if_pos h
theorem zwk {m : Nat} (h : m < 2 ^ 63) : Runs X F.z8y [.int .u64 (m : Int)] [] (intR (Lib.ctz 64 m)) := by
 have hp := prim_tz (x := (m : Int)) ⟨by omega,by omega⟩
 rw [Int.toNat_natCast] at hp
 rw [<- X_prim] at hp
 exact Runs.prim hp
theorem zek {m : Nat} (h : m < 2 ^ 63) : Runs X F.z6s [iD m] [] (intR (Lib.ctz 64 m)) := by
 refine zr2 ?_
 have : IntKind.u64.wrap (m : Int) = m := by rw [IntKind.wrap_u64]; omega
 rw [this]
 exact zwk h
theorem zhn {l1 l2 : List Int} {a : Int} (h : a ∉ l1) : (l1 ++ a :: l2).idxOf a = l1.length := by
 rw [List.idxOf_append,if_neg h,List.idxOf_cons_self,Nat.zero_add]
theorem zjw (w : List Int) (a : Int) (hw : w.length <= B40) : Runs X F.z2e [lD w,iD a] [] (intR (if a ∈ w then (w.idxOf a : Int) else -1)) := by
 have loop : ∀ (n i : Nat),i + n = w.length -> a ∉ w.take i ->
   WpL X F.z2e 0 (lb Tryz.f124 0) (z4z w a i).st (fun o => o = (if a ∈ w then zaz (w.idxOf a) else zb0).out) := by
  intro n
  induction n with
  | zero =>
    intro i hi hn
    rw [List.take_of_length_le (by omega)] at hn
    rw [if_neg hn]
    apply zxx
    case hq => rfl
    all_goals omega
  | succ n ih =>
    intro i hi hn
    have hlt : i < w.length := by omega
    have hv : w.getD i 0 = w[i] := by simp [List.getD_eq_getElem?_getD,hlt]
    by_cases e : a = w.getD i 0
    · have hm : a ∈ w := by rw [e,hv]; exact List.getElem_mem hlt
      have hidx : w.idxOf a = i := by
       have h1 : w = w.take i ++ a :: w.drop (i + 1) := by rw [e,hv]; simp
       have h2 := zhn (l1 := w.take i) (l2 := w.drop (i + 1)) hn
       rw [<- h1,List.length_take] at h2
       omega
      rw [if_pos hm,hidx]
      apply zxv
      case hq => rfl
      all_goals first | omega | exact e
    · apply zxw
      case hq =>
       refine ih (i + 1) (by omega) ?_
       rw [List.take_succ_eq_append_getElem hlt]
       intro hm
       rcases List.mem_append.1 hm with hm | hm
       · exact hn hm
       · simp at hm; exact e (by rw [hv]; exact hm)
      all_goals first | assumption | (unfold B40 at hw; omega)
 have h0 := loop w.length 0 (by omega) (by simp)
 by_cases hm : a ∈ w
 · rw [if_pos hm] at h0 ⊢
   exact zxt h0
 · rw [if_neg hm] at h0 ⊢
   exact zxu h0
theorem zvn (w : List Int) (a : Int) (hw : w.length <= B40) : Runs X F.zat [lD w,iD a] [] (boolR (decide (a ∈ w))) := by
 have := zjw w a hw
 by_cases h : a ∈ w
 · rw [if_pos h] at this
   have e : decide (a ∈ w) = decide ((w.idxOf a : Int) >= 0) := by simp [h]
   rw [e]; exact zko this
 · rw [if_neg h] at this
   have e : decide (a ∈ w) = decide ((-1 : Int) >= 0) := by simp [h]
   rw [e]; exact zko this
end Go.PR.S

end

section
set_option maxRecDepth 20000
namespace Go.PR.S
open Go Go.PR Go.Proofs
abbrev WL (f : FuncId) (b : Nat) (fn : Func) (k : Nat) (s : LSt) (o : OutL) : Prop := WpL X f b (lb fn k) s.st (fun x => x = o.out)
theorem zjv (w : List Int) (hw : w.length <= 2 * B40) : Runs X F.z4w [lD w] [] (rowR w) := by
 cases w with
 | nil => exact Runs.prim (by rw [X_prim]; rfl)
 | cons a w => exact zws (by unfold B40 at hw; omega)
theorem getD_lt {l : List Int} {i : Nat} (h : i < l.length) : l.getD i 0 = l[i] := by simp [List.getD_eq_getElem?_getD,h]
theorem zvq (a b : List Int) (ha : a.length <= B40) : Runs X F.z2d [lD a,lD b] [] (boolR (decide (a = b))) := by
 by_cases hl : a.length = b.length
 · have loop : ∀ (n i : Nat),i + n = a.length -> (∀ j,j < i -> a.getD j 0 = b.getD j 0) ->
     WL F.z2d 0 Tryz.f59 0 (z4y a b i) (if a = b then zaw else zav) := by
    intro n
    induction n with
    | zero =>
      intro i hi he
      have : a = b := by
       apply List.ext_getElem hl
       intro j h1 h2
       have := he j (by omega)
       rwa [getD_lt h1,getD_lt h2] at this
      rw [if_pos this]
      apply zxc
      case hq => rfl
      all_goals omega
    | succ n ih =>
      intro i hi he
      by_cases h : a.getD i 0 = b.getD i 0
      · apply zxb
        case hq =>
         refine ih (i + 1) (by omega) fun j hj => ?_
         by_cases e : j = i
         · rw [e]; exact h
         · exact he j (by omega)
        all_goals first | assumption | (unfold B40 at ha; omega)
      · rw [if_neg (fun e => h (by rw [e]))]
        apply zxa
        case hq => rfl
        all_goals first | assumption | (unfold B40 at ha; omega)
   have h0 := loop a.length 0 (by omega) (fun j hj => by omega)
   by_cases e : a = b
   · rw [if_pos e] at h0; rw [decide_eq_true e]; exact zx9 (by omega) h0
   · rw [if_neg e] at h0; rw [decide_eq_false e]; exact zx8 (by omega) h0
 · have : decide (a = b) = false := by simp; intro e; exact hl (by rw [e])
   rw [this]
   exact zx7 (by omega)
def revTo (xs : List Int) (i : Nat) : List Int := (xs.reverse.take i ++ (xs.drop i).take (xs.length - 2 * i)) ++ xs.reverse.drop (xs.length - i)
theorem zvv (xs : List Int) (hx : xs.length <= 2 * B40) : Runs X F.z3x [.rsl 500000 0 xs.length] [⟨true,.ints .i64 xs⟩] ⟨.tup [],[some ⟨true,.ints .i64 xs.reverse⟩],[]⟩ := by
 have loop : ∀ (n i : Nat) (r : List Int),xs.length - 2 * i <= n -> 2 * i <= xs.length + 1 -> r.length = xs.length -> (∀ k,k < xs.length -> r.getD k 0 = if k < i \/ xs.length - i <= k then xs.reverse.getD k 0 else xs.getD k 0) ->
   WL F.z3x 0 Tryz.f110 0 (z79 xs i (xs.length - i - 1 : Int) r) (zb1 xs.reverse) := by
  intro n
  induction n with
  | zero =>
    intro i r hn hi hr he
    have : r = xs.reverse := by
     apply List.ext_getElem (by simp [hr])
     intro k h1 h2
     have := he k (by omega)
     rw [getD_lt h1,getD_lt h2] at this
     by_cases hk : k < i \/ xs.length - i <= k
     · rw [if_pos hk] at this; exact this
     · rw [if_neg hk] at this
       rw [this,getD_lt (by omega),List.getElem_reverse]
       congr 1
       omega
    subst this
    apply zkz
    case hq => rfl
    all_goals first | assumption | (unfold B40 at hx; omega)
  | succ n ih =>
    intro i r hn hi hr he
    by_cases h : (i : Int) < xs.length - i - 1
    · have e1 : ((xs.length : Int) - i - 1).toNat = xs.length - i - 1 := by omega
      apply zy0
      case hq =>
       have e2 : ((xs.length : Int) - (i : Int) - 1 - 1) = ((xs.length : Int) - ((i + 1 : Nat) : Int) - 1) := by omega
       rw [e2,e1]
       refine ih (i + 1) _ (by omega) (by omega) (by simp [hr]) ?_
       intro k hk
       have hki : i < r.length := by omega
       have hkj : xs.length - i - 1 < r.length := by omega
       have v1 := he i (by omega)
       have v2 := he (xs.length - i - 1) (by omega)
       rw [if_neg (by omega)] at v1 v2
       rw [List.getD_eq_getElem?_getD,List.getElem?_set,List.getElem?_set]
       simp only [Nat.zero_add,List.length_set]
       by_cases hj : xs.length - i - 1 = k
       · rw [if_pos hj,if_pos (by omega),if_pos (by omega),Option.getD_some,v1,getD_lt (l := xs) (by omega),getD_lt (by simpa using hk),List.getElem_reverse]
         congr 1; omega
       · rw [if_neg hj]
         by_cases hk2 : i = k
         · rw [if_pos hk2,if_pos (by omega),if_pos (by omega),Option.getD_some,v2,getD_lt (l := xs) (by omega),getD_lt (by simpa using hk),List.getElem_reverse]
           congr 1; omega
         · rw [if_neg hk2,<- List.getD_eq_getElem?_getD,he k hk]
           by_cases hc : k < i \/ xs.length - i <= k
           · rw [if_pos hc,if_pos (by omega)]
           · rw [if_neg hc,if_neg (by omega)]
      all_goals first | assumption | (unfold B40 at hx; omega)
    · have : r = xs.reverse := by
       apply List.ext_getElem (by simp [hr])
       intro k h1 h2
       have := he k (by omega)
       rw [getD_lt h1,getD_lt h2] at this
       by_cases hk : k < i \/ xs.length - i <= k
       · rw [if_pos hk] at this; exact this
       · rw [if_neg hk] at this
         rw [this,getD_lt (by omega),List.getElem_reverse]
         congr 1
         omega
      subst this
      apply zkz
      case hq => rfl
      all_goals first | assumption | (unfold B40 at hx; omega)
 have h0 := loop xs.length 0 xs (by omega) (by omega) rfl (fun k hk => by rw [if_neg (by omega)])
 have e0 : ((xs.length : Int) - ((0 : Nat) : Int) - 1) = (xs.length : Int) - 1 := by omega
 rw [e0] at h0
 exact zxz (by unfold B40 at hx; omega) h0
theorem z8k (w : List Int) (hw : w.length <= 2 * B40) : Runs X F.z5e [lD w] [] (rowR w.reverse) := by
 have := zrb (zjv w hw) (zvv w hw)
 unfold rowR
 rw [List.length_reverse]
 exact this
theorem zvo (xs : List Int) (i : Nat) (hi : i < xs.length) : Runs X F.zau [.rsl 500000 0 xs.length,iD i,iD (i + 1)] [⟨true,.ints .i64 xs⟩]
  ⟨.rsl 600000 0 (xs.eraseIdx i).length,[none],[⟨true,.ints .i64 (xs.eraseIdx i)⟩]⟩ := by
 have h := zx6 (xs := xs) (i := (i : Int)) (j := (i : Int) + 1) (by omega) (by omega) (by omega) (by omega)
 have e1 : ((i : Int) + 1).toNat = i + 1 := by omega
 have e2 : (List.take (xs.length - (i + 1)) (List.drop (i + 1) xs)) = xs.drop (i + 1) := by
  rw [List.take_of_length_le (by simp)]
 have e3 : (xs.eraseIdx i) = xs.take i ++ xs.drop (i + 1) := List.eraseIdx_eq_take_drop_succ ..
 simp only [Int.toNat_natCast,e1,Nat.sub_zero,Nat.zero_add,e2] at h
 have e4 : i + (xs.drop (i + 1)).length = (xs.eraseIdx i).length := by rw [e3]; simp; omega
 have e5 : List.take (i + (xs.drop (i + 1)).length) (List.take i xs ++ List.drop (i + 1) xs ++ List.drop (i + (List.drop (i + 1) xs).length) xs) = xs.eraseIdx i := by
  rw [List.take_append_of_le_length (by simp; omega),List.take_of_length_le (by simp; omega),e3]
 rw [e5,e4] at h
 exact h
end Go.PR.S

end

section
set_option maxRecDepth 20000
namespace Go.PR.S
open Go Go.PR Go.Proofs Gp
theorem z8i {m : Nat} (h : m < 2 ^ 63) : Runs X F.z19 [iD m] [] (rowR (bitsL m)) := by
 have loop : ∀ (n k : Nat) (r : List Int),(bitsN k).length = n -> k < 2 ^ 63 -> r ++ bitsL k = bitsL m -> r.length <= 63 ->
   WL F.z19 0 Tryz.f70 0 (z6t k r) (z9i (bitsL m)) := by
  intro n
  induction n with
  | zero =>
    intro k r hn hk he hr
    by_cases h0 : k = 0
    · subst h0
      rw [zfx,List.append_nil] at he
      subst he
      apply zhz
      case hq => rfl
      all_goals rfl
    · rw [zc9 h0 hk] at hn; cases hn
  | succ n ih =>
    intro k r hn hk he hr
    by_cases h0 : k = 0
    · subst h0
      rw [zfx,List.append_nil] at he
      subst he
      apply zhz
      case hq => rfl
      all_goals rfl
    · have h1 : (k : Int) - 1 = ((k - 1 : Nat) : Int) := by omega
      have h2 : iand (k : Int) ((k : Int) - 1) = ((k &&& (k - 1) : Nat) : Int) := by rw [h1]; exact zhl hk (by omega)
      have hk' : k &&& (k - 1) < 2 ^ 63 := Nat.lt_of_le_of_lt Nat.and_le_left hk
      have hb := zn0 h0 hk
      have hlen : (r ++ bitsL k).length <= 63 := by
       rw [he]; unfold bitsL bitsN
       rw [List.length_map]
       exact Nat.le_trans (List.length_filter_le _ _) (by simp)
      rw [hb] at hlen
      apply zr7
      case hq =>
       rw [h2]
       refine ih _ _ ?_ hk' ?_ ?_
       · rw [zc9 h0 hk] at hn; simpa using hn
       · rw [hb] at he; rw [List.append_assoc]; exact he
       · simp at hlen ⊢; omega
      all_goals first | exact zek hk | omega
 exact zr6 (loop _ m [] rfl h (by simp) (by simp))
section
variable {T : Dep Int} {m : Nat} {t : List Int}
theorem z5v (ht : Tab T m t) {w : List Int} (hw : Wd m w) (hl : w.length <= B40) : Runs X F.z1a [lD t,lD w] [] (intR (firstM T m w)) := by
 have hm := ht.small
 have loop : ∀ (n i : Nat),i + n = w.length -> WL F.z1a 0 Tryz.f94 0 (z3m t w (firstM T m (w.take i)) (blockM T m (w.take i)) i) (z9o (firstM T m w)) := by
  intro n
  induction n with
  | zero =>
    intro i hi
    rw [List.take_of_length_le (by omega)]
    apply zs2
    case hq => rfl
    all_goals omega
  | succ n ih =>
    intro i hi
    have hlt : i < w.length := by omega
    have hv : w.getD i 0 = w[i] := getD_lt hlt
    have hx := hw w[i] (List.getElem_mem hlt)
    obtain ⟨x,hxe⟩ : ∃ x : Nat,w[i] = (x : Int) := ⟨w[i].toNat,by omega⟩
    have hxm : x < m := by omega
    obtain ⟨k,hk,hke,hkb⟩ := ht.mask x hxm
    have hts : w.take (i + 1) = w.take i ++ [(x : Int)] := by rw [List.take_succ_eq_append_getElem hlt,hxe]
    have hb63 : blockM T m (w.take i) < 2 ^ 63 := Nat.lt_of_lt_of_le (zn2 m _) (Nat.pow_le_pow_right (by omega) (by omega))
    have hf63 : firstM T m (w.take i) < 2 ^ 63 := Nat.lt_of_lt_of_le (z3f m _) (Nat.pow_le_pow_right (by omega) (by omega))
    have hk63 : k < 2 ^ 63 := Nat.lt_of_lt_of_le hk (Nat.pow_le_pow_right (by omega) (by omega))
    have e6 : ior (blockM T m (w.take i) : Int) (t.getD (w.getD i 0).toNat 0) = (blockM T m (w.take (i + 1)) : Int) := by
     rw [hv,hxe,Int.toNat_natCast,hke,ior_nat hb63 hk63,hts,zn4 (t := t) hk hkb]
    have hh := z74 (i := x) hb63
    rw [<- hxe,<- hv] at hh
    have hlen := ht.len
    have hw0 : 0 <= w.getD i 0 /\ w.getD i 0 < t.length := by rw [hv]; omega
    by_cases hbit : (blockM T m (w.take i)).testBit x = true
    · have hbt : tb (blockM T m (w.take i) : Int) (w.getD i 0) = true := by rw [hv,hxe]; unfold tb; simpa using hbit
      have e5 : firstM T m (w.take (i + 1)) = firstM T m (w.take i) := by rw [hts,zh8 hxm,if_pos hbit]
      apply zs1
      case hq => rw [e6,<- e5]; exact ih (i + 1) (by omega)
      all_goals first | exact hh | exact hbt | (unfold B40 at hl; omega)
    · have hbt : tb (blockM T m (w.take i) : Int) (w.getD i 0) = false := by rw [hv,hxe]; unfold tb; simpa using hbit
      have e5 : ior (firstM T m (w.take i) : Int) ((2 ^ x : Nat) : Int) = (firstM T m (w.take (i + 1)) : Int) := by
       rw [ior_nat hf63 (pow62 (by omega)),hts,zh8 hxm,if_neg hbit]
      have ho := zam (i := x) (by omega)
      rw [<- hxe,<- hv] at ho
      apply zs0
      case hq => rw [e6,e5]; exact ih (i + 1) (by omega)
      all_goals first | exact hh | exact ho | exact hbt | (unfold B40 at hl; omega)
 have h0 := loop w.length 0 (by omega)
 rw [List.take_zero,zoj,zn3] at h0
 exact zrz h0
end
end Go.PR.S

end

section
set_option maxRecDepth 20000
namespace Go.PR.S
open Go Go.PR Go.Proofs Gp
def sumL (ws : List (List Int)) : Nat := ws.flatten.length
theorem zcv {ws : List (List Int)} {i : Nat} (h : i < ws.length) : (ws.take (i + 1)).flatten = (ws.take i).flatten ++ ws.getD i [] := by
 rw [List.take_succ_eq_append_getElem h,List.flatten_append]
 simp [List.getD_eq_getElem?_getD,h]
theorem zcw (ws : List (List Int)) (i : Nat) : (ws.take i).flatten.length <= ws.flatten.length := by
 have : ws.flatten = (ws.take i).flatten ++ (ws.drop i).flatten := by rw [<- List.flatten_append,List.take_append_drop]
 rw [this]; simp
theorem zeb (ws : List (List Int)) (hl : ws.length <= B40) (hs : ws.flatten.length <= 4 * B40) : Runs X F.zm [.imm2 .i64 ws] [] (rowR ws.flatten) := by
 have sum : ∀ (n i : Nat),i + n = ws.length -> WL F.zm 0 Tryz.f32 0 (z4x ws (ws.take i).flatten.length i) (z77 ws ws.flatten.length) := by
  intro n
  induction n with
  | zero =>
    intro i hi
    rw [List.take_of_length_le (by omega)]
    apply zww
    case hq => rfl
    all_goals omega
  | succ n ih =>
    intro i hi
    have hf := zcv (ws := ws) (i := i) (by omega)
    have hle := zcw ws (i + 1)
    apply zwv
    case hq =>
     have := ih (i + 1) (by omega)
     rw [hf,List.length_append] at this
     exact this
    all_goals rw [hf,List.length_append] at hle
    all_goals unfold B40 at hl hs; omega
 have l5 := sum ws.length 0 (by omega)
 have l5' : WL F.zm 0 Tryz.f32 0 (z4x ws 0 0) (z77 ws ws.flatten.length) := l5
 by_cases hpos : 0 < ws.flatten.length
 · have loop : ∀ (n i : Nat) (r : List Int),i + n = ws.length -> r.length = ws.flatten.length -> r.take (ws.take i).flatten.length = (ws.take i).flatten ->
     WL F.zm 2 Tryz.f32 1 (z3s ws (ws.take i).flatten.length i r) (zaq ws.flatten.length ws.flatten) := by
    intro n
    induction n with
    | zero =>
      intro i r hi hr he
      have ht : ws.take i = ws := List.take_of_length_le (by omega)
      rw [ht] at he ⊢
      rw [List.take_of_length_le (by omega : r.length <= ws.flatten.length)] at he
      subst he
      apply zwz
      case hq => rfl
      all_goals first | exact l5' | (unfold B40 at hl hs; omega)
    | succ n ih =>
      intro i r hi hr he
      have hf := zcv (ws := ws) (i := i) (by omega)
      have hle := zcw ws (i + 1)
      rw [hf,List.length_append] at hle
      by_cases hend : (ws.take i).flatten.length = r.length
      · have h0 : (ws.getD i []).length = 0 := by omega
        have h0' : ws.getD i [] = [] := List.eq_nil_of_length_eq_zero h0
        apply zwx
        case hq =>
         have := ih (i + 1) r (by omega) hr (by rw [hf,h0',List.append_nil]; exact he)
         rw [hf,h0',List.append_nil] at this
         have e1 : List.take (ws.take i).flatten.length (List.drop 0 r) ++ ws.getD i [] = r := by
          rw [h0',List.append_nil,List.drop_zero,hend,List.take_length]
         rw [e1,<- hend]
         exact this
        all_goals first | exact l5' | (unfold B40 at hl hs; omega)
      · apply zwy
        case hq =>
         have e1 : (ws.take (i + 1)).flatten.length = (ws.take i).flatten.length + (ws.getD i []).length := by rw [hf,List.length_append]
         rw [<- e1]
         refine ih (i + 1) _ (by omega) ?_ ?_
         · simp only [Nat.zero_add,List.length_append,List.length_take,List.length_drop]; omega
         · rw [e1,Nat.zero_add,he,<- hf,List.take_append_of_le_length (by rw [e1]; exact Nat.le_refl _),List.take_of_length_le (by rw [e1]; exact Nat.le_refl _)]
        all_goals first | exact l5' | (unfold B40 at hl hs; omega)
   have h0 := loop ws.length 0 (List.replicate ws.flatten.length 0) (by omega) (by simp) (by simp)
   refine zwt l5' (by unfold B40 at hs; omega) (by omega) (by unfold B40 at hs; omega) ?_
   have e2 : ((ws.flatten.length : Int) - (0 - 0)).toNat = ws.flatten.length := by omega
   rw [e2]
   exact h0
 · have hz : ws.flatten.length = 0 := by omega
   have loop : ∀ (n i : Nat),i + n = ws.length -> WL F.zm 2 Tryz.f32 1 (z78 ws i []) (zar []) := by
    intro n
    induction n with
    | zero =>
      intro i hi
      apply zx1
      case hq => rfl
      all_goals first | exact l5' | (unfold B40 at hl hs; omega)
    | succ n ih =>
      intro i hi
      have hf := zcv (ws := ws) (i := i) (by omega)
      have hle := zcw ws (i + 1)
      rw [hf,List.length_append] at hle
      have h0' : ws.getD i [] = [] := List.eq_nil_of_length_eq_zero (by omega)
      apply zx0
      case hq => rw [h0']; exact ih (i + 1) (by omega)
      all_goals first | exact l5' | (rw [h0']; simp) | (unfold B40 at hl hs; omega)
   have h0 := loop ws.length 0 (by omega)
   have : ws.flatten = [] := List.eq_nil_of_length_eq_zero hz
   rw [this] at l5' ⊢
   exact zwu l5' (by simp) (by simp) h0
theorem z13h {w : List Int} {a : Int} (h : a ∈ w) : w.take (w.idxOf a) ++ w.drop (w.idxOf a + 1) = w.erase a := by
 rw [List.erase_eq_eraseIdx_of_idxOf rfl,List.eraseIdx_eq_take_drop_succ]
theorem z8m {w : List Int} {a : Int} (h : a ∈ w) (hl : w.length <= B40) : Runs X F.z4l [lD w,iD a] [] (rowR (w.erase a)) := by
 have h1 := zjw w a hl
 rw [if_pos h] at h1
 have hi : w.idxOf a < w.length := List.idxOf_lt_length_of_mem h
 refine zso h1 (by omega) (by omega) (by unfold B40 at hl; omega) (by omega) ?_
 have e1 : ((w.idxOf a : Int)).toNat - 0 = w.idxOf a := by omega
 have e2 : ((w.idxOf a : Int) + 1).toNat = w.idxOf a + 1 := by omega
 have e3 : List.take (w.length - (w.idxOf a + 1)) (List.drop (w.idxOf a + 1) w) = w.drop (w.idxOf a + 1) := List.take_of_length_le (by simp)
 rw [e1,e2,e3,List.drop_zero]
 have hfl : [w.take (w.idxOf a),w.drop (w.idxOf a + 1)].flatten = w.erase a := by simp [z13h h]
 have := zeb [w.take (w.idxOf a),w.drop (w.idxOf a + 1)] (by simp [B40]) (by rw [hfl]; have := List.length_erase_le (a := a) (l := w); unfold B40 at hl ⊢; omega)
 rw [hfl] at this
 exact this
theorem zwl {w : List Int} {a : Int} (h : a ∈ w) (hl : w.length <= B40) : Runs X F.z9s [lD w,iD a] [] (rowR (w.reverse.erase a).reverse) := by
 have hle := List.length_erase_le (a := a) (l := w.reverse)
 simp only [List.length_reverse] at hle
 exact zsq (z8k w (by unfold B40 at *; omega)) (z8m (by simpa using h) (by simpa using hl)) (z8k _ (by unfold B40 at *; omega))
section
variable {T : Dep Int} {m : Nat} {t : List Int}
theorem z8j (ht : Tab T m t) {w : List Int} (hw : Wd m w) (hl : w.length <= B40) : Runs X F.z1n [lD t,lD w] [] (rowR (nform T m w)) := by
 have hm := ht.small
 have loop : ∀ (n : Nat) (out rest : List Int),rest.length = n -> Wd m rest -> out.length + n <= B40 ->
   WL F.z1n 0 Tryz.f53 0 (z5h t out rest) (z5g (out ++ nfk T m n rest)) := by
  intro n
  induction n with
  | zero =>
    intro out rest hn hr hb
    apply zsk
    case hq => simp [nfk]
    all_goals first | (unfold B40 at hl; omega)
  | succ n ih =>
    intro out rest hn hr hb
    have hne : rest ≠ [] := by intro e; subst e; cases hn
    have hmem := zdp (T := T) hm hr hne
    have hf63 : firstM T m rest < 2 ^ 63 := Nat.lt_of_lt_of_le (z3f m _) (Nat.pow_le_pow_right (by omega) (by omega))
    have c1 := z5v ht hr (by omega)
    have c2 := zek hf63
    have c3 := z8m hmem (by omega)
    rw [zdy hm hr hne]
    apply zsj
    case hq =>
     have := ih (out ++ [(Go.Lib.ctz 64 (firstM T m rest) : Int)]) (rest.erase (Go.Lib.ctz 64 (firstM T m rest) : Int)) (by rw [List.length_erase_of_mem hmem]; omega) (hr.erase _) (by simp; omega)
     rw [List.append_assoc] at this
     exact this
    all_goals first | exact c1 | exact c2 | exact c3 | (unfold B40 at hl hb; omega)
 have key : WL F.z1n 0 Tryz.f53 0 (z9r t w) (z5g (nform T m w)) := by
  unfold nform
  cases hn : w.length with
  | zero =>
    apply zsi
    case hq => simp [nfk]
    all_goals first | (unfold B40 at hl; omega)
  | succ n =>
    have hne : w ≠ [] := by intro e; subst e; cases hn
    have hmem := zdp (T := T) hm hw hne
    have hf63 : firstM T m w < 2 ^ 63 := Nat.lt_of_lt_of_le (z3f m _) (Nat.pow_le_pow_right (by omega) (by omega))
    have c1 := z5v ht hw hl
    have c2 := zek hf63
    have c3 := z8m hmem hl
    rw [zdy hm hw hne]
    apply zsh
    case hq =>
     have := loop n [(Go.Lib.ctz 64 (firstM T m w) : Int)] (w.erase (Go.Lib.ctz 64 (firstM T m w) : Int)) (by rw [List.length_erase_of_mem hmem]; omega) (hw.erase _) (by unfold B40 at *; simp; omega)
     exact this
    all_goals first | exact c1 | exact c2 | exact c3 | (unfold B40 at hl; omega)
 exact zsg (by unfold B40 at hl; omega) key
end
end Go.PR.S

end

section
set_option maxRecDepth 20000
namespace Go.PR.S
open Go Go.PR Go.Proofs Gp
theorem z5n {f : FuncId} {b : Nat} {body : Code} {st : Nat -> LSt} {p : Nat -> Bool} {oF oT : OutL} {N : Nat}
  (hS : ∀ i,i < N -> p i = true -> ∀ Q,WpL X f b body (st (i + 1)).st Q -> WpL X f b body (st i).st Q)
  (hF : ∀ i,i < N -> p i = false -> ∀ Q : Out -> Prop,Q oF.out -> WpL X f b body (st i).st Q)
  (hE : ∀ Q : Out -> Prop,Q oT.out -> WpL X f b body (st N).st Q) :
  WpL X f b body (st 0).st (fun o => o = (if (List.range N).all p then oT else oF).out) := by
 have key : ∀ (n i : Nat),i + n = N -> (∀ j,j < i -> p j = true) -> WpL X f b body (st i).st (fun o => o = (if (List.range N).all p then oT else oF).out) := by
  intro n
  induction n with
  | zero =>
    intro i hi hp
    obtain rfl : i = N := by omega
    have : (List.range i).all p = true := List.all_eq_true.2 fun j hj => hp j (List.mem_range.1 hj)
    rw [if_pos this]
    exact hE _ rfl
  | succ n ih =>
    intro i hi hp
    cases hpi : p i with
    | true =>
      refine hS i (by omega) hpi _ (ih (i + 1) (by omega) fun j hj => ?_)
      by_cases e : j = i
      · rw [e]; exact hpi
      · exact hp j (by omega)
    | false =>
      have : ¬ (List.range N).all p = true := fun h => by
       have := List.all_eq_true.1 h i (List.mem_range.2 (by omega))
       rw [hpi] at this; cases this
      rw [if_neg this]
      exact hF i (by omega) hpi _ rfl
 exact key N 0 (by omega) fun j hj => by omega
theorem loop_to {f : FuncId} {b : Nat} {body : Code} {st : Nat -> LSt} {o : OutL} {N : Nat}
  (hS : ∀ i,i < N -> ∀ Q,WpL X f b body (st (i + 1)).st Q -> WpL X f b body (st i).st Q)
  (hE : ∀ Q : Out -> Prop,Q o.out -> WpL X f b body (st N).st Q) : WpL X f b body (st 0).st (fun x => x = o.out) := by
 have key : ∀ (n i : Nat),i + n = N -> WpL X f b body (st i).st (fun x => x = o.out) := by
  intro n
  induction n with
  | zero => intro i hi; obtain rfl : i = N := by omega
            exact hE _ rfl
  | succ n ih => intro i hi; exact hS i (by omega) _ (ih (i + 1) (by omega))
 exact key N 0 (by omega)
theorem zab {l : List Int} {q : Int -> Bool} : (List.range l.length).all (fun i => q (l.getD i 0)) = l.all q := by
 rw [Bool.eq_iff_iff,List.all_eq_true,List.all_eq_true]
 constructor
 · intro h x hx
   obtain ⟨i,hi,rfl⟩ := List.getElem_of_mem hx
   have := h i (List.mem_range.2 hi)
   rwa [getD_lt hi] at this
 · intro h i hi
   have hi := List.mem_range.1 hi
   rw [getD_lt hi]
   exact h _ (List.getElem_mem hi)
def code (s : Int) : Int := if s < 0 then -2 * s - 1 else 2 * s - 2
def sign (c : Int) : Int := if c % 2 = 1 then -(c / 2 + 1) else c / 2 + 1
def opp (a : Int) : Int := if a % 2 = 0 then a + 1 else a - 1
def Bd (w : List Int) : Prop := ∀ x ∈ w,-1000 <= x /\ x <= 1000
theorem Bd.at {w : List Int} (h : Bd w) {i : Nat} (hi : i < w.length) : -1000 <= w.getD i 0 /\ w.getD i 0 <= 1000 := by
 rw [getD_lt hi]; exact h _ (List.getElem_mem hi)
theorem z5q {w : List Int} {g : Int -> Int} {i : Nat} (h : i < w.length) : (w.take (i + 1)).map g = (w.take i).map g ++ [g (w.getD i 0)] := by
 rw [List.take_succ_eq_append_getElem h,List.map_append,getD_lt h]; rfl
theorem zvz {s : Int} (h : -1000 <= s /\ s <= 1000) : Runs X F.z7z [iD s] [] (intR (code s)) := by
 unfold code
 split
 · exact zqa (by omega) (by omega)
 · exact zqb (by omega) (by omega)
theorem z4u {w : List Int} (h : Bd w) (hl : w.length <= B40) : Runs X F.z6 [lD w] [] (rowR (w.map code)) := by
 refine zqd (by unfold B40 at hl; omega) (loop_to (N := w.length) (st := fun i => z6o w i ((w.take i).map code)) (fun i hi Q hq => ?_) (fun Q hq => ?_))
 · have c1 := zvz (h.at hi)
   apply zqe
   case hq => rw [<- z5q hi]; exact hq
   all_goals first | exact c1 | (simp only [List.length_map,List.length_take]; unfold B40 at hl; omega) | (unfold B40 at hl; omega)
 · apply zqf
   case hq => rw [List.take_length]; exact hq
   all_goals (unfold B40 at hl; omega)
theorem z8e {w : List Int} (h : Bd w) (h0 : ∀ x ∈ w,x ≠ 0) (hl : w.length <= B40) : Runs X F.zg [lD w] [] (rowR (w.map code)) := by
 refine z11z (loop_to (N := w.length) (st := fun i => z46 w i ((w.take i).map code)) (fun i hi Q hq => ?_) (fun Q hq => ?_))
 · have hb := h.at hi
   have hne : w.getD i 0 ≠ 0 := by rw [getD_lt hi]; exact h0 _ (List.getElem_mem hi)
   by_cases hp : w.getD i 0 > 0
   · apply z120
     case hq =>
      have e : code (w.getD i 0) = 2 * w.getD i 0 - 2 := by unfold code; rw [if_neg (by omega)]
      rw [<- e,<- z5q hi]; exact hq
     all_goals first | (simp only [List.length_map,List.length_take]; unfold B40 at hl; omega) | (unfold B40 at hl; omega)
   · apply z121
     case hq =>
      have e : code (w.getD i 0) = -2 * w.getD i 0 - 1 := by unfold code; rw [if_pos (by omega)]
      rw [<- e,<- z5q hi]; exact hq
     all_goals first | (simp only [List.length_map,List.length_take]; unfold B40 at hl; omega) | (unfold B40 at hl; omega)
 · apply z122
   case hq => rw [List.take_length]; exact hq
   all_goals (unfold B40 at hl; omega)
theorem tm2 {c : Int} (h : 0 <= c) : c.tmod 2 = c % 2 /\ c.tdiv 2 = c / 2 := ⟨Int.tmod_eq_emod_of_nonneg h,Int.tdiv_eq_ediv_of_nonneg h⟩
theorem zwi {c : Int} (h : 0 <= c /\ c <= 1000) : Runs X F.z80 [iD c] [] (intR (sign c)) := by
 obtain ⟨e1,e2⟩ := tm2 h.1
 unfold sign
 rw [<- e1,<- e2]
 split
 · exact zrc (by assumption) (by omega) (by omega) (by omega)
 · exact zrd (by assumption) (by omega) (by omega) (by omega)
theorem Wd.at {m : Nat} {w : List Int} (h : Wd m w) {i : Nat} (hi : i < w.length) : 0 <= w.getD i 0 /\ w.getD i 0 < m := by
 rw [getD_lt hi]; exact h _ (List.getElem_mem hi)
theorem zwj {m : Nat} (hm : m <= 62) {w : List Int} (h : Wd m w) (hl : w.length <= B40) : Runs X F.z4k [lD w] [] (rowR (w.map sign)) := by
 refine zrl (by unfold B40 at hl; omega) (loop_to (N := w.length) (st := fun i => z6v w i ((w.take i).map sign)) (fun i hi Q hq => ?_) (fun Q hq => ?_))
 · have hb := Wd.at h hi
   have c1 := zwi (c := w.getD i 0) (by omega)
   apply zrm
   case hq => rw [<- z5q hi]; exact hq
   all_goals first | exact c1 | (simp only [List.length_map,List.length_take]; unfold B40 at hl; omega) | (unfold B40 at hl; omega)
 · apply zrn
   case hq => rw [List.take_length]; exact hq
   all_goals (unfold B40 at hl; omega)
theorem zal {m : Nat} (hm : m <= 62) {w : List Int} (h : Wd m w) (hl : w.length <= B40) : Runs X F.zj [lD w] [] (rowR (w.map sign)) := by
 refine z128 (loop_to (N := w.length) (st := fun i => z48 w i ((w.take i).map sign)) (fun i hi Q hq => ?_) (fun Q hq => ?_))
 · have hb := Wd.at h hi
   obtain ⟨e1,e2⟩ := tm2 hb.1
   by_cases hp : (w.getD i 0) % 2 = 0
   · have e : sign (w.getD i 0) = (w.getD i 0).tdiv 2 + 1 := by unfold sign; rw [if_neg (by omega),e2]
     apply z129
     case hq => rw [<- e,<- z5q hi]; exact hq
     all_goals first | (simp only [List.length_map,List.length_take]; unfold B40 at hl; omega) | (unfold B40 at hl; omega)
   · have e : sign (w.getD i 0) = -(w.getD i 0).tdiv 2 - 1 := by unfold sign; rw [if_pos (by omega),e2]; omega
     apply z12a
     case hq => rw [<- e,<- z5q hi]; exact hq
     all_goals first | (simp only [List.length_map,List.length_take]; unfold B40 at hl; omega) | (unfold B40 at hl; omega)
 · apply z12b
   case hq => rw [List.take_length]; exact hq
   all_goals (unfold B40 at hl; omega)
theorem z8f {a : Int} (h : 0 <= a /\ a <= 1000) : Runs X F.z47 [iD a] [] (intR (opp a)) := by
 have e1 := (tm2 h.1).1
 have : opp a = a + 1 - 2 * a.tmod 2 := by unfold opp; rw [e1]; split <;> omega
 rw [this]
 apply z126
 all_goals omega
theorem zeh {m : Nat} (hm : m <= 62) {w : List Int} (h : Wd m w) (hl : w.length <= B40) : Runs X F.z1k [lD w] [] (rowR ((w.map opp).reverse)) := by
 refine z115 (by unfold B40 at hl; omega) ?_
 have := loop_to (f := F.z1k) (b := 0) (body := lb Tryz.f41 0) (N := w.length) (o := zbr (w.map opp).reverse) (st := fun i => z7h w ((w.length : Int) - 1 - i) (((w.map opp).reverse).take i)) (fun i hi Q hq => ?_) (fun Q hq => ?_)
 · have e : ((w.length : Int) - 1 - (0 : Nat)) = (w.length : Int) - 1 := by omega
   simp only [List.take_zero] at this
   rw [e] at this
   exact this
 · have hj : w.length - 1 - i < w.length := by omega
   have e1 : ((w.length : Int) - 1 - i).toNat = w.length - 1 - i := by omega
   have hb := Wd.at h hj
   have c1 := z8f (a := w.getD (w.length - 1 - i) 0) (by omega)
   rw [<- e1] at c1
   have e2 : ((w.map opp).reverse).take (i + 1) = ((w.map opp).reverse).take i ++ [opp (w.getD ((w.length : Int) - 1 - i).toNat 0)] := by
    rw [List.take_succ_eq_append_getElem (by simpa using hi),List.getElem_reverse,List.getElem_map,e1,getD_lt hj]
    simp
   apply z116
   case hq =>
    rw [<- e2]
    have e3 : (w.length : Int) - 1 - i - 1 = (w.length : Int) - 1 - ((i + 1 : Nat) : Int) := by omega
    rw [e3]; exact hq
   all_goals first | exact c1 | (simp only [List.length_map,List.length_take,List.length_reverse]; unfold B40 at hl; omega) | (unfold B40 at hl; omega)
 · apply z117
   case hq => rw [List.take_of_length_le (by simp)]; exact hq
   all_goals (unfold B40 at hl; omega)
theorem zec (n a b : Int) : Runs X F.z29 [iD n,.pim [iD a],.pim [iD b]] [] (boolR (!decide (a <= n /\ n <= b))) := zq4 (zah n a b)
theorem zjx (w : List Int) (a b : Int) (hl : w.length <= B40) : Runs X F.z6n [lD w,iD a,iD b] [] (boolR (w.all fun x => decide (a <= x /\ x <= b))) := by
 let q : Int -> Bool := fun x => decide (a <= x /\ x <= b)
 by_cases hall : w.all q = true
 · have hq : ∀ j,j < w.length -> q (w.getD j 0) = true := fun j hj => by rw [getD_lt hj]; exact List.all_eq_true.1 hall _ (List.getElem_mem hj)
   have h1 : Runs X F.zt [lD w,.fn F.z29 [.pim [iD a],.pim [iD b]]] [] (intR (-1)) := by
    refine zxm (loop_to (N := w.length) (st := fun i => z3v w a b i) (fun i hi Q hqq => ?_) (fun Q hqq => ?_))
    · have c1 := zec (w.getD i 0) a b
      have hx := hq i hi
      apply zkv
      case hq => exact hqq
      all_goals first | exact c1 | (show (!q (w.getD i 0)) = false; rw [hx]; rfl) | (unfold B40 at hl; omega)
    · apply zxo
      case hq => exact hqq
      all_goals (unfold B40 at hl; omega)
   have h2 := zkn h1
   have h3 := zhv h2
   rw [hall]
   exact h3
 · -- the first that does not fit
   obtain ⟨k,hk1,hk2,hk3⟩ : ∃ k,k < w.length /\ q (w.getD k 0) = false /\ ∀ j,j < k -> q (w.getD j 0) = true := by
    have : ∃ k,k < w.length /\ q (w.getD k 0) = false := by
     rw [<- zab,List.all_eq_true] at hall
     simp only [List.mem_range] at hall
     obtain ⟨k,hk⟩ := Classical.not_forall.1 hall
     obtain ⟨h1,h2⟩ := Classical.not_imp.1 hk
     exact ⟨k,h1,by simpa using h2⟩
    obtain ⟨k,hk⟩ := this
    induction k using Nat.strongRecOn with
    | _ k ih =>
      by_cases h : ∃ j,j < k /\ q (w.getD j 0) = false
      · obtain ⟨j,hj,hjq⟩ := h; exact ih j hj ⟨by omega,hjq⟩
      · refine ⟨k,hk.1,hk.2,fun j hj => ?_⟩
        cases hh : q (w.getD j 0) with
        | true => rfl
        | false => exact (h ⟨j,hj,hh⟩).elim
   have h1 : Runs X F.zt [lD w,.fn F.z29 [.pim [iD a],.pim [iD b]]] [] (intR k) := by
    refine zxl (loop_to (N := k) (st := fun i => z3v w a b i) (fun i hi Q hqq => ?_) (fun Q hqq => ?_))
    · have c1 := zec (w.getD i 0) a b
      have hx := hk3 i hi
      apply zkv
      case hq => exact hqq
      all_goals first | exact c1 | (show (!q (w.getD i 0)) = false; rw [hx]; rfl) | (unfold B40 at hl; omega)
    · have c1 := zec (w.getD k 0) a b
      apply zxn
      case hq => exact hqq
      all_goals first | exact c1 | (show (!q (w.getD k 0)) = true; rw [hk2]; rfl) | (unfold B40 at hl; omega)
   have h2 := zkn h1
   have h3 := zhv h2
   have e : w.all q = (!decide ((k : Int) >= 0)) := by simp at hall ⊢; simpa using hall
   rw [e]
   exact h3
end Go.PR.S

end
