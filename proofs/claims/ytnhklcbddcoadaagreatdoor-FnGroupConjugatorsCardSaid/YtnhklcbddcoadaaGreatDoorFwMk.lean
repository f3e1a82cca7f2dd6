/- The functions' numbers,by name (written by names.py). -/
import GoSem.Core.Code
import Derived.Test.YtnhklcbddcoadaaGreatDoorFwMp
import Derived.KernelRfl
import Derived.Lib.TrailingZeros
import Derived.Test.YtnhklcbddcoadaaGreatDoorProg
import Derived.WalkKit
import Derived.Lib.SliceRun
import Derived.Laws.Bits64b
import Derived.Test.YtnhklcbddcoadaaGreatDoorChecked
set_option linter.unusedVariables false
set_option linter.unusedSimpArgs false
set_option linter.unusedSectionVars false
section
namespace Go.PR.S.F
open Go
abbrev z14f : FuncId := 0
abbrev z13u : FuncId := 1
abbrev z13v : FuncId := 2
abbrev z5l : FuncId := 3
abbrev z14d : FuncId := 4
abbrev z4m : FuncId := 5
abbrev z61 : FuncId := 6
abbrev z32 : FuncId := 7
abbrev zn : FuncId := 8
abbrev z14 : FuncId := 9
abbrev z1z : FuncId := 10
abbrev z6k : FuncId := 11
abbrev z3i : FuncId := 12
abbrev z36 : FuncId := 13
abbrev z5m : FuncId := 14
abbrev z1u : FuncId := 15
abbrev z1t : FuncId := 16
abbrev z14v : FuncId := 17
abbrev z13z : FuncId := 18
abbrev z14u : FuncId := 19
abbrev z14e : FuncId := 20
abbrev z141 : FuncId := 21
abbrev z140 : FuncId := 22
abbrev z146 : FuncId := 23
abbrev z143 : FuncId := 24
abbrev z144 : FuncId := 25
abbrev z142 : FuncId := 26
abbrev z15 : FuncId := 27
abbrev z4g : FuncId := 28
abbrev z4i : FuncId := 29
abbrev ze : FuncId := 30
abbrev zk : FuncId := 31
abbrev zm : FuncId := 32
abbrev z33 : FuncId := 33
abbrev z60 : FuncId := 34
abbrev zi : FuncId := 35
abbrev zb : FuncId := 36
abbrev z8 : FuncId := 37
abbrev zg : FuncId := 38
abbrev z1b : FuncId := 39
abbrev z18 : FuncId := 40
abbrev z1k : FuncId := 41
abbrev zj : FuncId := 42
abbrev z1v : FuncId := 43
abbrev z1j : FuncId := 44
abbrev zd : FuncId := 45
abbrev z6 : FuncId := 46
abbrev z9e : FuncId := 47
abbrev z21 : FuncId := 48
abbrev z152 : FuncId := 49
abbrev z147 : FuncId := 50
abbrev z4h : FuncId := 51
abbrev z13y : FuncId := 52
abbrev z1n : FuncId := 53
abbrev z14w : FuncId := 54
abbrev zp : FuncId := 55
abbrev z1i : FuncId := 56
abbrev z148 : FuncId := 57
abbrev z14c : FuncId := 58
abbrev z2d : FuncId := 59
abbrev zeq : FuncId := 60
abbrev z145 : FuncId := 61
abbrev z9 : FuncId := 62
abbrev z4k : FuncId := 63
abbrev z2q : FuncId := 64
abbrev z25 : FuncId := 65
abbrev z5 : FuncId := 66
abbrev z24 : FuncId := 67
abbrev zf : FuncId := 68
abbrev z7 : FuncId := 69
abbrev z19 : FuncId := 70
abbrev zau : FuncId := 71
abbrev zkp : FuncId := 72
abbrev z5e : FuncId := 73
abbrev z45 : FuncId := 74
abbrev z3a : FuncId := 75
abbrev z2w : FuncId := 76
abbrev zo : FuncId := 77
abbrev z2y : FuncId := 78
abbrev z2x : FuncId := 79
abbrev z47 : FuncId := 80
abbrev z1f : FuncId := 81
abbrev zas : FuncId := 82
abbrev z20 : FuncId := 83
abbrev z6r : FuncId := 84
abbrev z7z : FuncId := 85
abbrev z2j : FuncId := 86
abbrev z5d : FuncId := 87
abbrev z14z : FuncId := 88
abbrev z14y : FuncId := 89
abbrev z150 : FuncId := 90
abbrev z17 : FuncId := 91
abbrev z1m : FuncId := 92
abbrev z6s : FuncId := 93
abbrev z1a : FuncId := 94
abbrev z4l : FuncId := 95
abbrev za : FuncId := 96
abbrev z151 : FuncId := 97
abbrev z149 : FuncId := 98
abbrev z14a : FuncId := 99
abbrev zt : FuncId := 100
abbrev z9q : FuncId := 101
abbrev z2l : FuncId := 102
abbrev z9s : FuncId := 103
abbrev z80 : FuncId := 104
abbrev z67 : FuncId := 105
abbrev z1d : FuncId := 106
abbrev z2a : FuncId := 107
abbrev z5i : FuncId := 108
abbrev z4w : FuncId := 109
abbrev z3x : FuncId := 110
abbrev z2f : FuncId := 111
abbrev z4j : FuncId := 112
abbrev z6m : FuncId := 113
abbrev z1g : FuncId := 114
abbrev z2o : FuncId := 115
abbrev z6n : FuncId := 116
abbrev zat : FuncId := 117
abbrev z39 : FuncId := 118
abbrev zu : FuncId := 119
abbrev z52 : FuncId := 120
abbrev z14x : FuncId := 121
abbrev z3z : FuncId := 122
abbrev z8y : FuncId := 123
abbrev z2e : FuncId := 124
abbrev z2g : FuncId := 125
abbrev z23 : FuncId := 126
abbrev z26 : FuncId := 127
abbrev z29 : FuncId := 128
abbrev z1q : FuncId := 129
abbrev zbe : FuncId := 130
abbrev z8r : FuncId := 131
abbrev z14m : FuncId := 132
abbrev z14n : FuncId := 133
abbrev z14q : FuncId := 134
abbrev z14r : FuncId := 135
abbrev z14s : FuncId := 136
abbrev z14t : FuncId := 137
abbrev z14o : FuncId := 138
abbrev z14p : FuncId := 139
abbrev z14k : FuncId := 140
abbrev z14l : FuncId := 141
abbrev z14i : FuncId := 142
abbrev z14j : FuncId := 143
abbrev z13t : FuncId := 144
abbrev z14g : FuncId := 145
abbrev z14h : FuncId := 146
abbrev z13x : FuncId := 147
abbrev z14b : FuncId := 148
abbrev z13s : FuncId := 149
abbrev z13w : FuncId := 153
end Go.PR.S.F

end

section
namespace Go.PR.S
open Go Go.PR Go.Proofs
def keepTab : List (Nat × Nat × List Nat × List Nat) := [(8,0,[10,12,13,14,15,16,17],[6,7]),(8,2,[10,12,13,14,15,16,17,19],[10,12,13,14,15,16,17]),(9,0,[0,1,5],[4]),(13,0,[0,5,6],[5]),(15,0,[2,3,9,26,27,28],[3,9]),(16,0,[7,20,21,22],[7]),(20,0,[0,3,4],[3]),(27,0,[2,5,6,7,8,9,11],[2,5,6,7,9]),(30,0,[3,11,12,13],[3]),(30,2,[3,6,11,12,13,18,19,20],[3,6,11,12,13]),(31,0,[0,5,10,11,12],[0,5]),(31,2,[0,5,7,8,10,11,12],[0,5,7,8,10,11,12]),(32,0,[0,3,9,10,11],[0,3]),(32,2,[6,25,26,27],[6]),(33,0,[3,8,9],[3]),(35,0,[1,2,3,4],[2,3]),(35,2,[1,2,3,4,5,6],[1,2,3,4,5]),(36,0,[2,6,7,8],[2,6,7]),(36,2,[2,6,7,8,9],[2,6,7,8]),(37,0,[2,5,6],[2,5]),(37,2,[2,5,6,7],[2,5,6]),(38,0,[0,3,4],[3]),(39,0,[0,1,5],[4]),(41,0,[0,3,4],[3]),(42,0,[0,3,4],[3]),(44,0,[0,1,5],[4]),(46,0,[3,9,10,11],[3]),(49,0,[2,5,6,7,8,9],[2,5,6,7,8]),(53,0,[0,5,6],[5]),(55,0,[2,7,8,9],[4,5,6,7,8]),(55,2,[2,7,8,9,10],[2,4,5,6,7,8,9]),(56,0,[2,5,6],[5]),(56,2,[2,5,6,7],[2,5,6]),(59,0,[0,1,12,13],[4]),(62,0,[0,6,7],[4,5]),(63,0,[3,9,10,11],[3]),(67,0,[0,4,7,8],[7]),(67,2,[0,4,7,8,9,10],[0,4,7,8]),(68,0,[0,4,7,8],[7]),(69,0,[0,5,6,7],[4,5]),(69,2,[0,5,6,7,37,38,39],[0,4,5,6,7]),(70,0,[0,3],[3]),(77,0,[1,2,3,7],[6]),(79,0,[0,3,4],[3]),(81,0,[1,25,26,27],[2]),(90,1,[0,4,7],[7]),(91,0,[0,1,7,8],[4]),(94,0,[0,5,6,9,10,11],[5]),(96,0,[1,3],[2]),(96,2,[1,3,4],[1,2,3]),(97,0,[0,1,5],[4]),(100,0,[0,1,7,8],[4]),(106,0,[0,1,5],[4]),(107,0,[3,9,10,11],[3]),(110,0,[0,2,3],[]),(114,0,[3,11,12,13],[3]),(114,2,[3,4,11,12,13,19,20,21],[3,11,12,13]),(115,0,[0,1,7,8],[4]),(118,0,[0,3,4],[3]),(119,0,[0,4,5,6,7,8],[4,6]),(119,2,[0,4,5,6,7,8,9],[0,4,5,6,7,8]),(121,0,[0,4,7,8],[7]),(124,0,[0,1,7,8],[4]),(126,0,[0,1,5],[4]),(127,1,[0,4,7],[7]),(129,0,[0,2,3,4],[2,3])]
def zn8 : List Nat := [14,66,67,68,71,90,110,119,120,121,122,127,130]
def byref (f : FuncId) : Bool := zn8.contains f
def zt2 (f : FuncId) (b : Nat) : Option Hint :=
 match keepTab.find? (fun p => p.1 == f && p.2.1 == b) with
 | some p => some ⟨p.2.2.1,if byref f then [500000,500001,500002] else [],p.2.2.2⟩
 | none => none
def z1w : List Int := [0,1,56,2,57,49,28,3,61,58,42,50,38,29,17,4,62,47,59,36,45,43,51,22,53,39,33,30,24,18,12,5,63,55,48,27,60,41,37,16,46,35,44,21,52,32,23,11,54,26,40,15,34,20,31,10,25,14,19,9,13,8,7,6]
def glob (g : Nat) : Option D := if g = 0 then some (.pim (z1w.map (.int .u8))) else none
def prim (f : FuncId) (args : List D) (prows : List Row) : Option Ret :=
 if f = F.z4w then match args,prows with
  | [.immI .i64 []],[] => some ⟨.rsl 600000 0 0,[],[⟨true,.ints .i64 []⟩]⟩
  | _,_ => none
 else if f = F.z8y then match args,prows with
  | [.int .u64 x],[] => if 0 <= x /\ x < 18446744073709551616 then some ⟨.int .i64 (Lib.ctz 64 x.toNat),[],[]⟩ else none
  | _,_ => none
 else none
def nilPos (s : String) : Bool := s == "l11_automata.go:257" || s == "l09_groups.go:282"
def nestPos (s : String) : Bool := s == "l07_conjugacy.go:156" || s == "l07_conjugacy.go:163"
noncomputable def X : Ctx := ctxOf Tryz.prog glob byref zt2 prim nilPos nestPos
abbrev wq (f : FuncId) (b : Nat) (fn : Func) (k : Nat) (s : LSt) (Q : Out -> Prop) : Prop := WpL X f b (lb fn k) s.st Q
abbrev wl (f : FuncId) (b : Nat) (fn : Func) (k : Nat) (s : LSt) (o : OutL) : Prop := WpL X f b (lb fn k) s.st fun x => x = o.out
end Go.PR.S

end

section
namespace Go.PR.S
open Go Go.PR Go.Proofs Go.RowKit
set_option maxHeartbeats 1000000 in
theorem tz_core (x k idx : Nat) (w : World) (hx0 : ((x : Int) == 0) = false)
  (key : IntKind.u64.wrap (bits BinOp.and IntKind.u64 (x : Int) (IntKind.u64.wrap (-(x : Int))) * 285870213051353865) / 288230376151711744 = (idx : Int))
  (hi : idx < 64) (hk : k < 64) (hcell : w.cell? ⟨0,idx,none⟩ = some (.int .u8 k)) :
  Calls Tryz.prog 123 #[.int .u64 x] w fun e w' => e = .returned (.int .i64 k) /\ w' = w := by
 go_enter Tryz.func123,Tryz.ntmps123
 go_wp2_with (simp only [key])
 go_ret
 exact ⟨rfl,rfl⟩
theorem tz_zero (w : World) : Calls Tryz.prog 123 #[.int .u64 0] w fun e w' => e = .returned (.int .i64 64) /\ w' = w := by
 go_enter Tryz.func123,Tryz.ntmps123
 go_wp2
 go_ret
 exact ⟨rfl,rfl⟩
set_option maxRecDepth 100000 in
theorem zne (c : Nat) (w : World) : Calls Tryz.prog 109 #[.slice none 0 c] w fun e w' => ∃ A',e = .returned (.slice A' 0 0) /\ Keeps (fun _ => False) w w' := by
 go_enter Tryz.func109,Tryz.ntmps109
 have t22 := Tryz.underlying24
 have hn : ∀ w' : World,(binOp .eql 24 (.slice none 0 c) (.slice none 0 0)).run Tryz.prog w' = .ok (.bool (none.isNone)) w' := fun w' => Go.Lib.run_eql_slice_nil w' 24 2 none 0 c 0 0 t22
 go_wp2
 go_ret
 exact ⟨_,rfl,Keeps.refl _ _⟩
set_option maxRecDepth 100000 in
theorem znf (A : Addr) (c : Nat) (w : World) : Calls Tryz.prog 109 #[.slice (some A) 0 c] w fun e w' => ∃ A',e = .returned (.slice A' 0 0) /\ Keeps (fun _ => False) w w' := by
 go_enter Tryz.func109,Tryz.ntmps109
 have t22 := Tryz.underlying24
 have hn : ∀ w' : World,(binOp .eql 24 (.slice (some A) 0 c) (.slice none 0 0)).run Tryz.prog w' = .ok (.bool ((some A).isNone)) w' := fun w' => Go.Lib.run_eql_slice_nil w' 24 2 (some A) 0 c 0 0 t22
 go_wp2
 go_ret
 exact ⟨_,rfl,Keeps.alloc _ _ _⟩
theorem zfq (r : D) : z16 ⟨r,[],[]⟩ = fun _ => none := by
 funext i; unfold z16; split
 · simp
 · split <;> simp
theorem one_row {id : Nat} {row rw0 : Row} {d : D} (hr : z16 ⟨d,[],[rw0]⟩ id = some row) : id = 600000 /\ row = rw0 := by
 unfold z16 XB PB at hr
 split at hr
 · rename_i hge
   have : id - 600000 = 0 := by
    rcases Nat.eq_zero_or_pos (id - 600000) with h | h
    · exact h
    · rw [List.getElem?_eq_none (by simp only [List.length_singleton]; omega)] at hr; cases hr
   rw [this] at hr
   simp at hr
   exact ⟨by omega,hr.symm⟩
 · split at hr <;> simp at hr
theorem tz_key (x a : Nat) (hx : x < 18446744073709551616) (hx0 : x ≠ 0) (hlow : x &&& (18446744073709551616 - x) = a) :
  IntKind.u64.wrap (bits BinOp.and IntKind.u64 (x : Int) (IntKind.u64.wrap (-(x : Int))) * 285870213051353865) / 288230376151711744 = ((a * 285870213051353865 % 18446744073709551616 / 288230376151711744 : Nat) : Int) := by
 have e1 : IntKind.u64.wrap (-(x : Int)) = ((18446744073709551616 - x : Nat) : Int) := by rw [IntKind.wrap_u64]; omega
 rw [e1,bits_and_u64_nat x _ hx (by omega),hlow,IntKind.wrap_u64]
 omega
theorem z13k (x : Nat) (hx : x < 18446744073709551616) (w : World) (hT : ∀ j,j < 64 -> w.cell? ⟨0,j,none⟩ = some (.int .u8 (Lib.deBruijn64tab.getD j 0 : Nat))) :
  Calls Tryz.prog 123 #[.int .u64 x] w fun e w' => e = .returned (.int .i64 (Lib.ctz 64 x)) /\ w' = w := by
 by_cases hx0 : x = 0
 · subst hx0
   exact tz_zero w
 · obtain ⟨hlow,hk⟩ := Lib.lowest_bit 64 x hx0 hx
   obtain ⟨hi,htab⟩ := Lib.deBruijn64_at _ hk
   have hcell := hT _ hi
   rw [htab] at hcell
   exact tz_core x _ _ w (by simp; omega) (tz_key x _ hx hx0 hlow) hi hk hcell
theorem tab_eq : ∀ j,j < 64 -> z1w.getD j 0 = (Lib.deBruijn64tab.getD j 0 : Nat) := by decide +kernel
theorem zv1 : ∀ f args prows r,X.prim f args prows = some r -> Sound Tryz.prog X f args prows r := by
 intro f args prows r h
 have h' : prim f args prows = some r := h
 unfold prim at h'
 split at h'
 · rename_i hf
   subst hf
   split at h'
   case h_2 => cases h'
   cases h'
   intro w M mu vs hs
   have hv := hs.env
   simp only [List.toList_toArray] at hv
   cases vs with
   | nil => simp only [RepL] at hv
   | cons v vs =>
     cases vs with
     | cons => simp only [RepL] at hv; exact hv.2.elim
     | nil =>
       simp only [RepL,Rep] at hv
       obtain ⟨⟨A,c,rfl,_,_⟩,_⟩ := hv
       have key : Calls Tryz.prog 109 #[.slice A 0 c] w fun e w' => ∃ A',e = .returned (.slice A' 0 0) /\ Keeps (fun _ => False) w w' := by
        cases A with
        | none => exact zne c w
        | some A => exact znf A c w
       refine key.mono ?_
       rintro e w' ⟨A',rfl,hk⟩
       let mu' : Nat -> Option Loc := fun i => if i = 600000 then some .nowhere else mu i
       have hs' := hs.world hk
       refine ⟨_,M,mu',rfl,{ hs' with env := ?_,rows := ?_,apart := ?_,pin := ?_ }⟩
       · simp only [RepL,Rep]
         exact ⟨⟨.nowhere,by simp [mu'],rfl,A',rfl⟩,trivial⟩
       · intro id row hr
         have hid := one_row hr
         obtain ⟨rfl,rfl⟩ := hid
         exact ⟨.nowhere,by simp [mu'],by simp [ContRep,intsV]⟩
       · intro i j ri rj b hij hi hj
         have one : ∀ i ri,z16 ⟨.rsl 600000 0 0,[],[⟨true,.ints .i64 []⟩]⟩ i = some ri -> i = 600000 := fun i ri hr => (one_row hr).1
         exact (hij ((one i ri hi).trans (one j rj hj).symm)).elim
       · intro i hi
         have : i ≠ 600000 := fun e => by have := hi.2; unfold XB at this; omega
         simp [mu',this]
 · split at h'
   · rename_i hf
     subst hf
     split at h'
     case h_2 => cases h'
     rename_i x
     split at h'
     case isFalse => cases h'
     rename_i hx
     cases h'
     intro w M mu vs hs
     have hv := hs.env
     simp only [List.toList_toArray] at hv
     cases vs with
     | nil => simp only [RepL] at hv
     | cons v vs =>
       cases vs with
       | cons => simp only [RepL] at hv; exact hv.2.elim
       | nil =>
         simp only [RepL,Rep] at hv
         obtain ⟨rfl,_⟩ := hv
         have hg := hs.glob 0 (.pim (z1w.map (.int .u8))) rfl
         simp only [Rep] at hg
         obtain ⟨ad,cv,e1,hr,hh⟩ := hg
         cases e1
         have hT : ∀ j,j < 64 -> w.cell? ⟨0,j,none⟩ = some (.int .u8 (Lib.deBruijn64tab.getD j 0 : Nat)) := by
          intro j hj
          have hlen : z1w.length = 64 := by decide
          obtain ⟨u,hu,hru⟩ := hr.get j (.int .u8 (z1w.getD j 0)) (by
           rw [List.getElem?_map,List.getElem?_eq_getElem (by omega)]
           simp [List.getD,List.getElem?_eq_getElem (show j < z1w.length by omega)])
          simp only [Rep] at hru
          subst hru
          have := (zhj hh hu).1
          rw [zy,Nat.zero_add] at this
          rw [this,tab_eq j hj]
         obtain ⟨m,rfl⟩ : ∃ m : Nat,x = m := ⟨x.toNat,by omega⟩
         refine (z13k m (by omega) w hT).mono ?_
         rintro e w' ⟨rfl,rfl⟩
         refine ⟨_,M,mu,rfl,{ hs with env := ?_,rows := ?_,apart := ?_ }⟩
         · simp only [RepL,Rep,Int.toNat_natCast,and_self]
         · intro id row hr; rw [zfq] at hr; cases hr
         · intro i j ri rj b hij hi; rw [zfq] at hi; cases hi
   · cases h'
theorem X_ok : XOK Tryz.prog X := znn (by kernel_rfl)
theorem Runs.sound {f : FuncId} {args : List D} {prows : List Row} {r : Ret} (h : Runs X f args prows r) : Sound Tryz.prog X f args prows r := by
 obtain ⟨K,hK⟩ := h
 exact zco X_ok zv1 K f args prows r (hK K (Nat.le_refl _))
end Go.PR.S

end

section
namespace Go.PR
open Go
def tb (m i : Int) : Bool := m.toNat.testBit i.toNat
theorem zfe {a : Nat} (h : a < 2 ^ 63) : IntKind.i64.wrap (a : Int) = a := by
 rw [IntKind.wrap_i64]; omega
theorem z71 {a : Nat} (h : a < 2 ^ 63) : (BitVec.ofInt 64 (a : Int)).toNat = a := by
 rw [BitVec.toNat_ofInt]; omega
theorem zhl {a b : Nat} (ha : a < 2 ^ 63) (hb : b < 2 ^ 63) : iand a b = (a &&& b : Nat) := by
 show IntKind.i64.wrap (BitVec.ofInt 64 (a : Int) &&& BitVec.ofInt 64 (b : Int)).toNat = _
 simp only [BitVec.toNat_and,z71 ha,z71 hb]
 exact zfe (Nat.lt_of_le_of_lt Nat.and_le_left ha)
theorem ior_nat {a b : Nat} (ha : a < 2 ^ 63) (hb : b < 2 ^ 63) : ior a b = (a ||| b : Nat) := by
 show IntKind.i64.wrap (BitVec.ofInt 64 (a : Int) ||| BitVec.ofInt 64 (b : Int)).toNat = _
 simp only [BitVec.toNat_or,z71 ha,z71 hb]
 exact zfe (Nat.or_lt_two_pow ha hb)
theorem zt0 {a b : Nat} (ha : a < 2 ^ 63) (hb : b < 2 ^ 63) : ixor a b = (a ^^^ b : Nat) := by
 show IntKind.i64.wrap (BitVec.ofInt 64 (a : Int) ^^^ BitVec.ofInt 64 (b : Int)).toNat = _
 simp only [BitVec.toNat_xor,z71 ha,z71 hb]
 exact zfe (Nat.xor_lt_two_pow ha hb)
theorem zsy (a i : Nat) : ishr a i = (a / 2 ^ min i 64 : Nat) := by
 unfold ishr
 rw [Int.toNat_natCast]
 have : (2 : Int) ^ min i 64 = ((2 ^ min i 64 : Nat) : Int) := by simp
 rw [this,Int.fdiv_eq_ediv_of_nonneg _ (Int.natCast_nonneg _)]
 rfl
theorem zic (a i : Nat) : ishl a i = (a * 2 ^ min i 64 : Nat) := by
 unfold ishl
 rw [Int.toNat_natCast]
 simp
theorem one_nat {i : Nat} (h : i <= 62) : ishl 1 i = (2 ^ i : Nat) := by
 have := zic 1 i
 rw [Nat.min_eq_left (by omega),Nat.one_mul] at this
 exact this
theorem pow62 {i : Nat} (h : i <= 62) : 2 ^ i < 2 ^ 63 := Nat.pow_lt_pow_right (by omega) (by omega)
theorem has_nat {m i : Nat} (h : m < 2 ^ 63) : (iand (ishr m i) 1 == 1) = tb m i := by
 have hs : m / 2 ^ min i 64 < 2 ^ 63 := Nat.lt_of_le_of_lt (Nat.div_le_self _ _) h
 have h1 : iand (ishr m i) 1 = ((m / 2 ^ min i 64 &&& 1 : Nat) : Int) := by rw [zsy]; exact zhl (b := 1) hs (by omega)
 rw [h1]
 unfold tb
 simp only [Int.toNat_natCast]
 rw [Nat.and_one_is_mod]
 by_cases hi : i <= 64
 · rw [Nat.min_eq_left hi,Nat.testBit_eq_decide_div_mod_eq]
   rw [Bool.eq_iff_iff,beq_iff_eq,decide_eq_true_iff]; omega
 · rw [Nat.min_eq_right (by omega),Nat.div_eq_of_lt (by omega)]
   have : m.testBit i = false := Nat.testBit_lt_two_pow (Nat.lt_of_lt_of_le h (Nat.pow_le_pow_right (by omega) (by omega)))
   rw [this]; decide
def mkM (f : Nat -> Bool) : Nat -> Nat
 | 0 => 0
 | m + 1 => mkM f m ||| (if f m then 2 ^ m else 0)
theorem mkM_bit (f : Nat -> Bool) : ∀ (m i : Nat),(mkM f m).testBit i = (decide (i < m) && f i)
 | 0,i => by simp [mkM]
 | m + 1,i => by
   simp only [mkM,Nat.testBit_or,mkM_bit f m i]
   by_cases h : f m
   · rw [if_pos h,Nat.testBit_two_pow]
     by_cases e : m = i
     · subst e; simp [h]
     · have : decide (i < m + 1) = decide (i < m) := by rw [Bool.eq_iff_iff]; simp; omega
       simp [e,this]
   · rw [if_neg h]
     by_cases e : m = i
     · subst e; simp at h; simp [h]
     · have : decide (i < m + 1) = decide (i < m) := by rw [Bool.eq_iff_iff]; simp; omega
       simp [this]
theorem mkM_lt (f : Nat -> Bool) (m : Nat) : mkM f m < 2 ^ m := by
 refine Nat.lt_pow_two_of_testBit _ fun i hi => ?_
 rw [mkM_bit]; simp; omega
theorem bit_lt {a m i : Nat} (ha : a < 2 ^ m) (h : a.testBit i = true) : i < m := by
 rcases Nat.lt_or_ge i m with hh | hh
 · exact hh
 · rw [Nat.testBit_lt_two_pow (Nat.lt_of_lt_of_le ha (Nat.pow_le_pow_right (by omega) hh))] at h
   cases h
end Go.PR

end
