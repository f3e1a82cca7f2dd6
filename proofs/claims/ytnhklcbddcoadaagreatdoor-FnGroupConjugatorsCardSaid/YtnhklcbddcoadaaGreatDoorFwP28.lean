/- Path lemmas (written by Vc.lean). -/
import Derived.Test.YtnhklcbddcoadaaGreatDoorFwMk
import Derived.Test.YtnhklcbddcoadaaGreatDoorFwP27
set_option linter.unusedVariables false
set_option linter.unusedSimpArgs false
set_option linter.unusedSectionVars false
section
set_option maxRecDepth 20000
open Go Go.PR Go.Proofs Go.PR.S
namespace Go.PR.S
theorem zf2 : X.ft F.zu = some Tryz.f119 := by kernel_rfl
theorem zza {m : Int} {c : List Int} {a h : Int} (h1 : m >= (4 : Int)) {r2 : Int} {c3 : List Int} {a4 h5 : Int} (c6 : Runs X F.z5 [.ptr 500000 0,iD 6] [⟨true,.var [.immI .u8 c,iD a,.int .u64 h]⟩] ⟨iD r2,[some ⟨true,.var [.immI .u8 c3,iD a4,.int .u64 h5]⟩],[]⟩) (h7 : r2 = 0) : Runs X F.zu [.ptr 500000 0,iD m] [⟨true,.var [.immI .u8 c,iD a,.int .u64 h]⟩] ⟨.agg [iD 4,.rsl 600000 0 4],[some ⟨true,.var [.immI .u8 c3,iD a4,.int .u64 h5]⟩],[⟨true,.ints .i64 [(11 : Int),(7 : Int),(14 : Int),(13 : Int)]⟩]⟩ :=
 RG zf2 [true,true,true,true,true] [decide (m >= (4 : Int)) = true,decide (m >= (4 : Int)) = true,decide (m >= (4 : Int)) = true,decide (m >= (4 : Int)) = true,(r2 == (0 : Int)) = true] (PA (decide_eq_true h1) (PA (decide_eq_true h1) (PA (decide_eq_true h1) (PA (decide_eq_true h1) (PA (beq_iff_eq.2 h7) trivial))))) (PC c6 PN) LN
def z7b (r16 n21 : Int) (xs22 : List Int) (r24 : Int) (t8a : Nat) (x500000_0a : List Int) (t500000_1a t500000_2a : Int) (r2006001a : List Int) : LSt := ⟨mkE 53 0 [(0,.ptr 500000 0),(4,.ptr 1004 0),(5,iD r16),(6,.ptr 1006 0),(7,iD r24),(8,iD (↑t8a : Int))],[(500000,⟨true,.var [.immI .u8 x500000_0a,iD t500000_1a,.int .u64 t500000_2a]⟩),(1004,⟨true,.var [iD 0,.nil NK.unk]⟩),(1006,⟨true,.var [iD n21,.rsl 2006001 0 xs22.length]⟩),(2006001,⟨true,.ints .i64 r2006001a⟩)]⟩
def zb8 (n21 : Int) (xs22 r2006001az x500000_0az : List Int) (t500000_1az t500000_2az : Int) : OutL := .exit 0 ⟨mkE 53 0 [(4,.ptr 1004 0),(6,.ptr 1006 0)],[(1004,⟨true,.var [iD 0,.nil NK.unk]⟩),(1006,⟨true,.var [iD n21,.rsl 2006001 0 xs22.length]⟩),(2006001,⟨true,.ints .i64 r2006001az⟩),(500000,⟨true,.var [.immI .u8 x500000_0az,iD t500000_1az,.int .u64 t500000_2az]⟩)]⟩
def z40 (r16 n21 : Int) (xs22 : List Int) (r24 : Int) (t8a t9b : Nat) (x500000_0b : List Int) (t500000_1b t500000_2b : Int) (r2006001b : List Int) : LSt := ⟨mkE 53 0 [(0,.ptr 500000 0),(4,.ptr 1004 0),(5,iD r16),(6,.ptr 1006 0),(7,iD r24),(8,iD (↑t8a : Int)),(9,iD (↑t9b : Int))],[(500000,⟨true,.var [.immI .u8 x500000_0b,iD t500000_1b,.int .u64 t500000_2b]⟩),(1004,⟨true,.var [iD 0,.nil NK.unk]⟩),(1006,⟨true,.var [iD n21,.rsl 2006001 0 xs22.length]⟩),(2006001,⟨true,.ints .i64 r2006001b⟩)]⟩
def zb9 (r16 n21 : Int) (xs22 : List Int) (r24 : Int) (t8a : Nat) (x500000_0bz : List Int) (t500000_1bz t500000_2bz : Int) (r2006001bz : List Int) : OutL := .exit 2 ⟨mkE 53 0 [(0,.ptr 500000 0),(4,.ptr 1004 0),(5,iD r16),(6,.ptr 1006 0),(7,iD r24),(8,iD (↑t8a : Int))],[(500000,⟨true,.var [.immI .u8 x500000_0bz,iD t500000_1bz,.int .u64 t500000_2bz]⟩),(1004,⟨true,.var [iD 0,.nil NK.unk]⟩),(1006,⟨true,.var [iD n21,.rsl 2006001 0 xs22.length]⟩),(2006001,⟨true,.ints .i64 r2006001bz⟩)]⟩
section
variable {Q : Out -> Prop} {r16 n21 : Int} {xs22 : List Int} (c23 : Runs X F.z1q [iD r16] [] ⟨.agg [iD n21,.rsl 600000 0 xs22.length],[],[⟨true,.ints .i64 xs22⟩]⟩) {r24 : Int} {t8a : Nat}
include c23
section
variable (h31 : (↑t8a : Int) < r16) {t9b : Nat} {x500000_0b : List Int} {t500000_1b t500000_2b : Int} {r2006001b : List Int} (e32 : r2006001b.length = xs22.length) (h33 : (↑t9b : Int) < (↑t8a : Int)) {r34 : Int} {c35 : List Int} {a36 h37 : Int} (c38 : Runs X F.z5 [.ptr 500000 0,iD r24] [⟨true,.var [.immI .u8 x500000_0b,iD t500000_1b,.int .u64 t500000_2b]⟩] ⟨iD r34,[some ⟨true,.var [.immI .u8 c35,iD a36,.int .u64 h37]⟩],[]⟩)
include h31 e32 h33 c38
theorem zzf (h39 : r34 = 0) {xs40 : List Int} (c41 : Runs X F.zbe [.agg [iD n21,.rsl 500000 0 xs22.length],iD (↑t8a : Int),iD (↑t9b : Int)] [⟨true,.ints .i64 r2006001b⟩] ⟨.tup [],[some ⟨true,.ints .i64 xs40⟩],[]⟩) (h42 : (↑t9b : Int) + (1 : Int) <= (9223372036854775807 : Int)) (hq : wq F.zu 2 Tryz.f119 1 (z40 r16 n21 xs22 r24 t8a (t9b + 1) c35 a36 h37 xs40) Q) : wq F.zu 2 Tryz.f119 1 (z40 r16 n21 xs22 r24 t8a t9b x500000_0b t500000_1b t500000_2b r2006001b) Q :=
 RS [true,true] (.normal (z40 r16 n21 xs22 r24 t8a (t9b + 1) c35 a36 h37 xs40)) [decide ((↑t9b : Int) < (↑t8a : Int)) = true,(r34 == (0 : Int)) = true,inR ((↑t9b : Int) + (1 : Int))] (PA (decide_eq_true h33) (PA (beq_iff_eq.2 h39) (PA ⟨(by omega),h42⟩ trivial))) (PC c38 (PC c41 PN)) LN hq
theorem zzg (h43 : ¬r34 = 0) (h44 : (↑t9b : Int) + (1 : Int) <= (9223372036854775807 : Int)) (hq : wq F.zu 2 Tryz.f119 1 (z40 r16 n21 xs22 r24 t8a (t9b + 1) c35 a36 h37 r2006001b) Q) : wq F.zu 2 Tryz.f119 1 (z40 r16 n21 xs22 r24 t8a t9b x500000_0b t500000_1b t500000_2b r2006001b) Q :=
 RS [true,false] (.normal (z40 r16 n21 xs22 r24 t8a (t9b + 1) c35 a36 h37 r2006001b)) [decide ((↑t9b : Int) < (↑t8a : Int)) = true,(r34 == (0 : Int)) = false,inR ((↑t9b : Int) + (1 : Int))] (PA (decide_eq_true h33) (PA (beq_false_of_ne h43) (PA ⟨(by omega),h44⟩ trivial))) (PC c38 PN) LN hq
end
theorem zzh (h31 : (↑t8a : Int) < r16) {t9b : Nat} {x500000_0b : List Int} {t500000_1b t500000_2b : Int} {r2006001b : List Int} (e32 : r2006001b.length = xs22.length) (h45 : ¬(↑t9b : Int) < (↑t8a : Int)) (hq : Q (zb9 r16 n21 xs22 r24 t8a x500000_0b t500000_1b t500000_2b r2006001b).out) : wq F.zu 2 Tryz.f119 1 (z40 r16 n21 xs22 r24 t8a t9b x500000_0b t500000_1b t500000_2b r2006001b) Q :=
 RS [false] (zb9 r16 n21 xs22 r24 t8a x500000_0b t500000_1b t500000_2b r2006001b) [decide ((↑t9b : Int) < (↑t8a : Int)) = false] (PA (decide_eq_false h45) trivial) PN LN hq
section
variable {x500000_0a : List Int} {t500000_1a t500000_2a : Int} {r2006001a : List Int} (e30 : r2006001a.length = xs22.length)
include e30
theorem zzd (h31 : (↑t8a : Int) < r16) {x500000_0bz : List Int} {t500000_1bz t500000_2bz : Int} {r2006001bz : List Int} (l46 : wl F.zu 2 Tryz.f119 1 (z40 r16 n21 xs22 r24 t8a 0 x500000_0a t500000_1a t500000_2a r2006001a) (zb9 r16 n21 xs22 r24 t8a x500000_0bz t500000_1bz t500000_2bz r2006001bz)) (h47 : (↑t8a : Int) + (1 : Int) <= (9223372036854775807 : Int)) (hq : wq F.zu 0 Tryz.f119 0 (z7b r16 n21 xs22 r24 (t8a + 1) x500000_0bz t500000_1bz t500000_2bz r2006001bz) Q) : wq F.zu 0 Tryz.f119 0 (z7b r16 n21 xs22 r24 t8a x500000_0a t500000_1a t500000_2a r2006001a) Q :=
 RS [true] (.normal (z7b r16 n21 xs22 r24 (t8a + 1) x500000_0bz t500000_1bz t500000_2bz r2006001bz)) [decide ((↑t8a : Int) < r16) = true,inR ((↑t8a : Int) + (1 : Int))] (PA (decide_eq_true h31) (PA ⟨(by omega),h47⟩ trivial)) PN (LC l46 LN) hq
theorem zze (h48 : ¬(↑t8a : Int) < r16) (hq : Q (zb8 n21 xs22 r2006001a x500000_0a t500000_1a t500000_2a).out) : wq F.zu 0 Tryz.f119 0 (z7b r16 n21 xs22 r24 t8a x500000_0a t500000_1a t500000_2a r2006001a) Q :=
 RS [false] (zb8 n21 xs22 r2006001a x500000_0a t500000_1a t500000_2a) [decide ((↑t8a : Int) < r16) = false] (PA (decide_eq_false h48) trivial) PN LN hq
end
end
theorem zzb {m : Int} {c : List Int} {a h : Int} (h1 : m >= (4 : Int)) {r2 : Int} {c3 : List Int} {a4 h5 : Int} (c6 : Runs X F.z5 [.ptr 500000 0,iD 6] [⟨true,.var [.immI .u8 c,iD a,.int .u64 h]⟩] ⟨iD r2,[some ⟨true,.var [.immI .u8 c3,iD a4,.int .u64 h5]⟩],[]⟩) (h8 : ¬r2 = 0) (h9 : m + (1 : Int) <= (9223372036854775807 : Int)) {r10 : Int} {c11 : List Int} {a12 h13 : Int} (c14 : Runs X F.z5 [.ptr 500000 0,iD (m + (1 : Int))] [⟨true,.var [.immI .u8 c3,iD a4,.int .u64 h5]⟩] ⟨iD r10,[some ⟨true,.var [.immI .u8 c11,iD a12,.int .u64 h13]⟩],[]⟩) (h15 : r10 < (2 : Int)) {r16 : Int} {c17 : List Int} {a18 h19 : Int} (c20 : Runs X F.z5 [.ptr 500000 0,iD (m + (1 : Int))] [⟨true,.var [.immI .u8 c11,iD a12,.int .u64 h13]⟩] ⟨iD r16,[some ⟨true,.var [.immI .u8 c17,iD a18,.int .u64 h19]⟩],[]⟩) {n21 : Int} {xs22 : List Int} (c23 : Runs X F.z1q [iD r16] [] ⟨.agg [iD n21,.rsl 600000 0 xs22.length],[],[⟨true,.ints .i64 xs22⟩]⟩) {r24 : Int} {c25 : List Int} {a26 h27 : Int} {ys28 : List Int} (c29 : Runs X F.z3z [.ptr 500000 0,.rsl 500001 0 4] [⟨true,.var [.immI .u8 c17,iD a18,.int .u64 h19]⟩,⟨true,.ints .i64 [(2 : Int),(2 : Int),(3 : Int),(4 : Int)]⟩] ⟨iD r24,[some ⟨true,.var [.immI .u8 c25,iD a26,.int .u64 h27]⟩,some ⟨true,.ints .i64 ys28⟩],[]⟩) {r2006001az x500000_0az : List Int} {t500000_1az t500000_2az : Int} (l49 : wl F.zu 0 Tryz.f119 0 (z7b r16 n21 xs22 r24 0 c25 a26 h27 xs22) (zb8 n21 xs22 r2006001az x500000_0az t500000_1az t500000_2az)) : Runs X F.zu [.ptr 500000 0,iD m] [⟨true,.var [.immI .u8 c,iD a,.int .u64 h]⟩] ⟨.agg [iD n21,.rsl 600000 0 xs22.length],[some ⟨true,.var [.immI .u8 x500000_0az,iD t500000_1az,.int .u64 t500000_2az]⟩],[⟨true,.ints .i64 r2006001az⟩]⟩ :=
 RG zf2 [true,true,true,true,false,true] [decide (m >= (4 : Int)) = true,decide (m >= (4 : Int)) = true,decide (m >= (4 : Int)) = true,decide (m >= (4 : Int)) = true,(r2 == (0 : Int)) = false,inR (m + (1 : Int)),decide (r10 < (2 : Int)) = true,inR (m + (1 : Int))] (PA (decide_eq_true h1) (PA (decide_eq_true h1) (PA (decide_eq_true h1) (PA (decide_eq_true h1) (PA (beq_false_of_ne h8) (PA ⟨(by omega),h9⟩ (PA (decide_eq_true h15) (PA ⟨(by omega),h9⟩ trivial)))))))) (PC c6 (PC c14 (PC c20 (PC c23 (PC c29 PN))))) (LC l49 LN)
def zzi (r10 n51 : Int) (xs52 : List Int) (r54 : Int) (t8a : Nat) (x500000_0a : List Int) (t500000_1a t500000_2a : Int) (r2006001a : List Int) : LSt := ⟨mkE 53 0 [(0,.ptr 500000 0),(4,.ptr 1004 0),(5,iD r10),(6,.ptr 1006 0),(7,iD r54),(8,iD (↑t8a : Int))],[(500000,⟨true,.var [.immI .u8 x500000_0a,iD t500000_1a,.int .u64 t500000_2a]⟩),(1004,⟨true,.var [iD 0,.nil NK.unk]⟩),(1006,⟨true,.var [iD n51,.rsl 2006001 0 xs52.length]⟩),(2006001,⟨true,.ints .i64 r2006001a⟩)]⟩
def zz9 (n51 : Int) (xs52 r2006001az x500000_0az : List Int) (t500000_1az t500000_2az : Int) : OutL := .exit 0 ⟨mkE 53 0 [(4,.ptr 1004 0),(6,.ptr 1006 0)],[(1004,⟨true,.var [iD 0,.nil NK.unk]⟩),(1006,⟨true,.var [iD n51,.rsl 2006001 0 xs52.length]⟩),(2006001,⟨true,.ints .i64 r2006001az⟩),(500000,⟨true,.var [.immI .u8 x500000_0az,iD t500000_1az,.int .u64 t500000_2az]⟩)]⟩
theorem zzc {m : Int} {c : List Int} {a h : Int} (h1 : m >= (4 : Int)) {r2 : Int} {c3 : List Int} {a4 h5 : Int} (c6 : Runs X F.z5 [.ptr 500000 0,iD 6] [⟨true,.var [.immI .u8 c,iD a,.int .u64 h]⟩] ⟨iD r2,[some ⟨true,.var [.immI .u8 c3,iD a4,.int .u64 h5]⟩],[]⟩) (h8 : ¬r2 = 0) (h9 : m + (1 : Int) <= (9223372036854775807 : Int)) {r10 : Int} {c11 : List Int} {a12 h13 : Int} (c14 : Runs X F.z5 [.ptr 500000 0,iD (m + (1 : Int))] [⟨true,.var [.immI .u8 c3,iD a4,.int .u64 h5]⟩] ⟨iD r10,[some ⟨true,.var [.immI .u8 c11,iD a12,.int .u64 h13]⟩],[]⟩) (h50 : ¬r10 < (2 : Int)) {n51 : Int} {xs52 : List Int} (c53 : Runs X F.z1q [iD r10] [] ⟨.agg [iD n51,.rsl 600000 0 xs52.length],[],[⟨true,.ints .i64 xs52⟩]⟩) {r54 : Int} {c55 : List Int} {a56 h57 : Int} {ys58 : List Int} (c59 : Runs X F.z3z [.ptr 500000 0,.rsl 500001 0 4] [⟨true,.var [.immI .u8 c11,iD a12,.int .u64 h13]⟩,⟨true,.ints .i64 [(2 : Int),(2 : Int),(3 : Int),(4 : Int)]⟩] ⟨iD r54,[some ⟨true,.var [.immI .u8 c55,iD a56,.int .u64 h57]⟩,some ⟨true,.ints .i64 ys58⟩],[]⟩) {r2006001az x500000_0az : List Int} {t500000_1az t500000_2az : Int} (l79 : wl F.zu 0 Tryz.f119 0 (zzi r10 n51 xs52 r54 0 c55 a56 h57 xs52) (zz9 n51 xs52 r2006001az x500000_0az t500000_1az t500000_2az)) : Runs X F.zu [.ptr 500000 0,iD m] [⟨true,.var [.immI .u8 c,iD a,.int .u64 h]⟩] ⟨.agg [iD n51,.rsl 600000 0 xs52.length],[some ⟨true,.var [.immI .u8 x500000_0az,iD t500000_1az,.int .u64 t500000_2az]⟩],[⟨true,.ints .i64 r2006001az⟩]⟩ :=
 RG zf2 [true,true,true,true,false,false] [decide (m >= (4 : Int)) = true,decide (m >= (4 : Int)) = true,decide (m >= (4 : Int)) = true,decide (m >= (4 : Int)) = true,(r2 == (0 : Int)) = false,inR (m + (1 : Int)),decide (r10 < (2 : Int)) = false] (PA (decide_eq_true h1) (PA (decide_eq_true h1) (PA (decide_eq_true h1) (PA (decide_eq_true h1) (PA (beq_false_of_ne h8) (PA ⟨(by omega),h9⟩ (PA (decide_eq_false h50) trivial))))))) (PC c6 (PC c14 (PC c53 (PC c59 PN)))) (LC l79 LN)
theorem z8t : X.ft F.z52 = some Tryz.f120 := by kernel_rfl
section
variable {m : Int} {c : List Int} {a h n1 : Int} {xs2 c3 : List Int} {a4 h5 : Int} (c6 : Runs X F.zu [.ptr 500000 0,iD m] [⟨true,.var [.immI .u8 c,iD a,.int .u64 h]⟩] ⟨.agg [iD n1,.rsl 600000 0 xs2.length],[some ⟨true,.var [.immI .u8 c3,iD a4,.int .u64 h5]⟩],[⟨true,.ints .i64 xs2⟩]⟩) {r7 : Int} {c8 : List Int} {a9 h10 : Int} (c11 : Runs X F.z5 [.ptr 500000 0,iD 14] [⟨true,.var [.immI .u8 c3,iD a4,.int .u64 h5]⟩] ⟨iD r7,[some ⟨true,.var [.immI .u8 c8,iD a9,.int .u64 h10]⟩],[]⟩)
include c6 c11
theorem z101 (h12 : r7 > (0 : Int)) : Runs X F.z52 [.ptr 500000 0,iD m] [⟨true,.var [.immI .u8 c,iD a,.int .u64 h]⟩] ⟨.agg [iD n1,.rsl 600000 0 xs2.length],[some ⟨true,.var [.immI .u8 c8,iD a9,.int .u64 h10]⟩],[⟨true,.ints .i64 xs2⟩]⟩ :=
 RG z8t [true] [decide (r7 > (0 : Int)) = true] (PA (decide_eq_true h12) trivial) (PC c6 (PC c11 PN)) LN
section
variable (h13 : ¬r7 > (0 : Int)) {r14 : Int} {c15 : List Int} {a16 h17 : Int} (c18 : Runs X F.z5 [.ptr 500000 0,iD 4] [⟨true,.var [.immI .u8 c8,iD a9,.int .u64 h10]⟩] ⟨iD r14,[some ⟨true,.var [.immI .u8 c15,iD a16,.int .u64 h17]⟩],[]⟩)
include h13 c18
theorem z102 (h19 : r14 = 0) (h20 : (-9223372036854775808 : Int) <= n1 + (1 : Int)) (h21 : n1 + (1 : Int) <= (9223372036854775807 : Int)) {r22 : Int} {c23 : List Int} {a24 h25 : Int} {ys26 : List Int} (c27 : Runs X F.z3z [.ptr 500000 0,.rsl 500001 0 3] [⟨true,.var [.immI .u8 c15,iD a16,.int .u64 h17]⟩,⟨true,.ints .i64 ([(-1 : Int),(9 : Int)] ++ [n1 + (1 : Int)])⟩] ⟨iD r22,[some ⟨true,.var [.immI .u8 c23,iD a24,.int .u64 h25]⟩,some ⟨true,.ints .i64 ys26⟩],[]⟩) : Runs X F.z52 [.ptr 500000 0,iD m] [⟨true,.var [.immI .u8 c,iD a,.int .u64 h]⟩] ⟨.agg [iD r22,.rsl 600000 0 xs2.length],[some ⟨true,.var [.immI .u8 c23,iD a24,.int .u64 h25]⟩],[⟨true,.ints .i64 xs2⟩]⟩ :=
 RG z8t [false,true] [decide (r7 > (0 : Int)) = false,(r14 == (0 : Int)) = true,inR (n1 + (1 : Int))] (PA (decide_eq_false h13) (PA (beq_iff_eq.2 h19) (PA ⟨h20,h21⟩ trivial))) (PC c6 (PC c11 (PC c18 (PC c27 PN)))) LN
theorem z103 (h28 : ¬r14 = 0) (h29 : r14 = 1) {r30 : Int} {c31 : List Int} {a32 h33 : Int} {ys34 : List Int} (c35 : Runs X F.z3z [.ptr 500000 0,.rsl 500001 0 3] [⟨true,.var [.immI .u8 c15,iD a16,.int .u64 h17]⟩,⟨true,.ints .i64 [(0 : Int),(1 : Int),(255 : Int)]⟩] ⟨iD r30,[some ⟨true,.var [.immI .u8 c31,iD a32,.int .u64 h33]⟩,some ⟨true,.ints .i64 ys34⟩],[]⟩) (h36 : xs2.length + 1 <= 1099511627776) : Runs X F.z52 [.ptr 500000 0,iD m] [⟨true,.var [.immI .u8 c,iD a,.int .u64 h]⟩] ⟨.agg [iD n1,.rsl 600000 0 (xs2 ++ [r30]).length],[some ⟨true,.var [.immI .u8 c31,iD a32,.int .u64 h33]⟩],[⟨true,.ints .i64 (xs2 ++ [r30])⟩]⟩ :=
 RG z8t [false,false,true,true,true] [decide (r7 > (0 : Int)) = false,(r14 == (0 : Int)) = false,(r14 == (1 : Int)) = true,0 + xs2.length = xs2.length /\ xs2.length + 1 <= 1099511627776,0 = 0 /\ xs2.length = xs2.length] (PA (decide_eq_false h13) (PA (beq_false_of_ne h28) (PA (beq_iff_eq.2 h29) (PA ⟨(by first|omega|simp),h36⟩ (PA ⟨(by first|omega|simp),(by omega)⟩ trivial))))) (PC c6 (PC c11 (PC c18 (PC c35 PN)))) LN
theorem z104 (h28 : ¬r14 = 0) (h37 : ¬r14 = 1) (h38 : n1 > (0 : Int)) {r39 : Int} {c40 : List Int} {a41 h42 : Int} (c43 : Runs X F.z5 [.ptr 500000 0,iD n1] [⟨true,.var [.immI .u8 c15,iD a16,.int .u64 h17]⟩] ⟨iD r39,[some ⟨true,.var [.immI .u8 c40,iD a41,.int .u64 h42]⟩],[]⟩) (h44 : (0 : Int) <= r39) (h45 : r39 < (↑xs2.length : Int)) {r46 : Int} (c47 : Runs X F.z2w [iD r39] [] (intR r46)) (h48 : (-9223372036854775808 : Int) <= xs2.getD (0 + r39.toNat) 0 - r46) (h49 : xs2.getD (0 + r39.toNat) 0 - r46 <= (9223372036854775807 : Int)) {r50 : Int} (c51 : Runs X F.z2w [iD n1] [] (intR r50)) {r52 : Int} (c53 : Runs X F.z2w [iD n1] [] (intR r52)) {r54 : Int} {c55 : List Int} {a56 h57 : Int} (c58 : Runs X F.z5 [.ptr 500000 0,iD r52] [⟨true,.var [.immI .u8 c40,iD a41,.int .u64 h42]⟩] ⟨iD r54,[some ⟨true,.var [.immI .u8 c55,iD a56,.int .u64 h57]⟩],[]⟩) {r59 : Int} {c60 : List Int} {a61 h62 : Int} {ys63 : List Int} (c64 : Runs X F.z3z [.ptr 500000 0,.rsl 500001 0 4] [⟨true,.var [.immI .u8 c55,iD a56,.int .u64 h57]⟩,⟨true,.ints .i64 ([xs2.getD (0 + r39.toNat) 0 - r46] ++ [ior (xs2.getD (0 + r39.toNat) 0) r50] ++ [r54] ++ [(-1 : Int)])⟩] ⟨iD r59,[some ⟨true,.var [.immI .u8 c60,iD a61,.int .u64 h62]⟩,some ⟨true,.ints .i64 ys63⟩],[]⟩) : Runs X F.z52 [.ptr 500000 0,iD m] [⟨true,.var [.immI .u8 c,iD a,.int .u64 h]⟩] ⟨.agg [iD n1,.rsl 600000 0 xs2.length],[some ⟨true,.var [.immI .u8 c60,iD a61,.int .u64 h62]⟩],[⟨true,.ints .i64 (xs2.set (0 + r39.toNat) r59)⟩]⟩ :=
 RG z8t [false,false,false,true] [decide (r7 > (0 : Int)) = false,(r14 == (0 : Int)) = false,(r14 == (1 : Int)) = false,decide (n1 > (0 : Int)) = true,(0 : Int) <= r39 /\ r39 < (↑xs2.length : Int),0 + r39.toNat < xs2.length,inR (xs2.getD (0 + r39.toNat) 0 - r46),(0 : Int) <= r39 /\ r39 < (↑xs2.length : Int),0 + r39.toNat < xs2.length,(0 : Int) <= r39 /\ r39 < (↑xs2.length : Int),0 + r39.toNat < xs2.length] (PA (decide_eq_false h13) (PA (beq_false_of_ne h28) (PA (beq_false_of_ne h37) (PA (decide_eq_true h38) (PA ⟨h44,h45⟩ (PO (PA ⟨h48,h49⟩ (PA ⟨h44,h45⟩ (PO (PA ⟨h44,h45⟩ (PO trivial))))))))))) (PC c6 (PC c11 (PC c18 (PC c43 (PC c47 (PC c51 (PC c53 (PC c58 (PC c64 PN))))))))) LN
theorem z105 (h28 : ¬r14 = 0) (h37 : ¬r14 = 1) (h65 : ¬n1 > (0 : Int)) : Runs X F.z52 [.ptr 500000 0,iD m] [⟨true,.var [.immI .u8 c,iD a,.int .u64 h]⟩] ⟨.agg [iD n1,.rsl 600000 0 xs2.length],[some ⟨true,.var [.immI .u8 c15,iD a16,.int .u64 h17]⟩],[⟨true,.ints .i64 xs2⟩]⟩ :=
 RG z8t [false,false,false,false] [decide (r7 > (0 : Int)) = false,(r14 == (0 : Int)) = false,(r14 == (1 : Int)) = false,decide (n1 > (0 : Int)) = false] (PA (decide_eq_false h13) (PA (beq_false_of_ne h28) (PA (beq_false_of_ne h37) (PA (decide_eq_false h65) trivial)))) (PC c6 (PC c11 (PC c18 PN))) LN
end
end
theorem zlm : X.ft F.zf = some Tryz.f68 := by kernel_rfl
theorem z11n {n m : Int} {xs c : List Int} {a h : Int} (h1 : n = 0) : Runs X F.zf [.ptr 500000 0,.agg [iD n,.rsl 500001 0 xs.length],iD m] [⟨true,.var [.immI .u8 c,iD a,.int .u64 h]⟩,⟨true,.ints .i64 xs⟩] ⟨.rsl 600000 0 0,[some ⟨true,.var [.immI .u8 c,iD a,.int .u64 h]⟩,some ⟨true,.ints .i64 xs⟩],[⟨true,.ints .i64 []⟩]⟩ :=
 RG zlm [true] [(n == (0 : Int)) = true] (PA (beq_iff_eq.2 h1) trivial) PN LN
def z1c (n : Int) (xs : List Int) (t8a : Int) (x500000_0a : List Int) (t500000_1a t500000_2a : Int) (r7a : List Int) : LSt := ⟨mkE 58 0 [(0,.ptr 500000 0),(4,.ptr 1004 0),(7,.rsl 7 0 r7a.length),(8,iD t8a)],[(500000,⟨true,.var [.immI .u8 x500000_0a,iD t500000_1a,.int .u64 t500000_2a]⟩),(1004,⟨true,.var [iD n,.rsl 500001 0 xs.length]⟩),(7,⟨true,.ints .i64 r7a⟩),(500001,⟨true,.ints .i64 xs⟩)]⟩
def z8v (xs r7az x500000_0az : List Int) (t500000_1az t500000_2az : Int) : OutL := .exit 0 ⟨mkE 58 0 [(7,.rsl 7 0 r7az.length)],[(7,⟨true,.ints .i64 r7az⟩),(500000,⟨true,.var [.immI .u8 x500000_0az,iD t500000_1az,.int .u64 t500000_2az]⟩),(500001,⟨true,.ints .i64 xs⟩)]⟩
section
variable {Q : Out -> Prop} {n : Int} {xs : List Int} (h2 : ¬n = 0) {t8a : Int} {x500000_0a : List Int} {t500000_1a t500000_2a : Int} {r7a : List Int} (h10 : t8a > (0 : Int)) {r11 : Int} {c12 : List Int} {a13 h14 : Int} (c15 : Runs X F.z5 [.ptr 500000 0,iD n] [⟨true,.var [.immI .u8 x500000_0a,iD t500000_1a,.int .u64 t500000_2a]⟩] ⟨iD r11,[some ⟨true,.var [.immI .u8 c12,iD a13,.int .u64 h14]⟩],[]⟩) (h16 : (-9223372036854775808 : Int) <= r11 + (1 : Int)) (h17 : r11 + (1 : Int) <= (9223372036854775807 : Int))
include h2 h10 c15 h16 h17
section
variable (h18 : (↑r7a.length : Int) > (1 : Int)) {r19 : Int} {c20 : List Int} {a21 h22 : Int} (c23 : Runs X F.z5 [.ptr 500000 0,iD 4] [⟨true,.var [.immI .u8 c12,iD a13,.int .u64 h14]⟩] ⟨iD r19,[some ⟨true,.var [.immI .u8 c20,iD a21,.int .u64 h22]⟩],[]⟩)
include h18 c23
theorem z11p (h24 : r19 = 0) (h25 : (↑r7a.length : Int) - (1 : Int) <= (9223372036854775807 : Int)) {r26 : Int} {c27 : List Int} {a28 h29 : Int} (c30 : Runs X F.z5 [.ptr 500000 0,iD 2] [⟨true,.var [.immI .u8 c20,iD a21,.int .u64 h22]⟩] ⟨iD r26,[some ⟨true,.var [.immI .u8 c27,iD a28,.int .u64 h29]⟩],[]⟩) (h31 : (-9223372036854775808 : Int) <= (↑r7a.length : Int) - (1 : Int) - r26) (h32 : (↑r7a.length : Int) - (1 : Int) - r26 <= (9223372036854775807 : Int)) (h33 : (0 : Int) <= (↑r7a.length : Int) - (1 : Int) - r26) (h34 : (↑r7a.length : Int) - (1 : Int) - r26 < (↑r7a.length : Int)) (h35 : (-9223372036854775808 : Int) <= -r7a.getD (0 + ((↑r7a.length : Int) - (1 : Int) - r26).toNat) (0 : Int)) (h36 : -r7a.getD (0 + ((↑r7a.length : Int) - (1 : Int) - r26).toNat) (0 : Int) <= (9223372036854775807 : Int)) (h37 : r7a.length + 1 <= 1099511627776) (h38 : t8a - (1 : Int) <= (9223372036854775807 : Int)) (hq : wq F.zf 0 Tryz.f68 0 (z1c n xs (t8a - (1 : Int)) c27 a28 h29 (r7a ++ [-r7a.getD (0 + ((↑r7a.length : Int) - (1 : Int) - r26).toNat) (0 : Int)])) Q) : wq F.zf 0 Tryz.f68 0 (z1c n xs t8a x500000_0a t500000_1a t500000_2a r7a) Q :=
 RS [true,true,true,true,true,true,true,true,true] (.normal (z1c n xs (t8a - (1 : Int)) c27 a28 h29 (r7a ++ [-r7a.getD (0 + ((↑r7a.length : Int) - (1 : Int) - r26).toNat) (0 : Int)]))) [decide (t8a > (0 : Int)) = true,inR (r11 + (1 : Int)),decide ((↑r7a.length : Int) > (1 : Int)) = true,decide ((↑r7a.length : Int) > (1 : Int)) = true,decide ((↑r7a.length : Int) > (1 : Int)) = true,decide ((↑r7a.length : Int) > (1 : Int)) = true,(r19 == (0 : Int)) = true,inR ((↑r7a.length : Int) - (1 : Int)),inR ((↑r7a.length : Int) - (1 : Int) - r26),(0 : Int) <= (↑r7a.length : Int) - (1 : Int) - r26 /\ (↑r7a.length : Int) - (1 : Int) - r26 < (↑r7a.length : Int),0 + ((↑r7a.length : Int) - (1 : Int) - r26).toNat < r7a.length,inR (-r7a.getD (0 + ((↑r7a.length : Int) - (1 : Int) - r26).toNat) (0 : Int)),1 <= 1,0 = 0 /\ 1 = 1,0 + r7a.length = r7a.length /\ r7a.length + 1 <= 1099511627776,0 = 0 /\ r7a.length = r7a.length,inR (t8a - (1 : Int))] (PA (decide_eq_true h10) (PA ⟨h16,h17⟩ (PA (decide_eq_true h18) (PA (decide_eq_true h18) (PA (decide_eq_true h18) (PA (decide_eq_true h18) (PA (beq_iff_eq.2 h24) (PA ⟨(by omega),h25⟩ (PA ⟨h31,h32⟩ (PA ⟨h33,h34⟩ (PO (PA ⟨h35,h36⟩ (PO (PA ⟨(by omega),(by first|omega|simp)⟩ (PA ⟨(by first|omega|simp),h37⟩ (PA ⟨(by first|omega|simp),(by omega)⟩ (PA ⟨(by omega),h38⟩ trivial))))))))))))))))) (PC c15 (PC c23 (PC c30 PN))) LN hq
section
variable (h39 : ¬r19 = 0) {r40 : Int} {c41 : List Int} {a42 h43 : Int} (c44 : Runs X F.z5 [.ptr 500000 0,iD 3] [⟨true,.var [.immI .u8 c20,iD a21,.int .u64 h22]⟩] ⟨iD r40,[some ⟨true,.var [.immI .u8 c41,iD a42,.int .u64 h43]⟩],[]⟩)
include h39 c44
theorem z11q (h45 : r40 = 0) (h46 : -(r11 + (1 : Int)) <= (9223372036854775807 : Int)) (h47 : r7a.length + 1 <= 1099511627776) (h48 : t8a - (1 : Int) <= (9223372036854775807 : Int)) (hq : wq F.zf 0 Tryz.f68 0 (z1c n xs (t8a - (1 : Int)) c41 a42 h43 (r7a ++ [-(r11 + (1 : Int))])) Q) : wq F.zf 0 Tryz.f68 0 (z1c n xs t8a x500000_0a t500000_1a t500000_2a r7a) Q :=
 RS [true,true,true,true,true,false,true,true,true,true] (.normal (z1c n xs (t8a - (1 : Int)) c41 a42 h43 (r7a ++ [-(r11 + (1 : Int))]))) [decide (t8a > (0 : Int)) = true,inR (r11 + (1 : Int)),decide ((↑r7a.length : Int) > (1 : Int)) = true,decide ((↑r7a.length : Int) > (1 : Int)) = true,decide ((↑r7a.length : Int) > (1 : Int)) = true,decide ((↑r7a.length : Int) > (1 : Int)) = true,(r19 == (0 : Int)) = false,(r40 == (0 : Int)) = true,inR (-(r11 + (1 : Int))),1 <= 1,0 = 0 /\ 1 = 1,0 + r7a.length = r7a.length /\ r7a.length + 1 <= 1099511627776,0 = 0 /\ r7a.length = r7a.length,inR (t8a - (1 : Int))] (PA (decide_eq_true h10) (PA ⟨h16,h17⟩ (PA (decide_eq_true h18) (PA (decide_eq_true h18) (PA (decide_eq_true h18) (PA (decide_eq_true h18) (PA (beq_false_of_ne h39) (PA (beq_iff_eq.2 h45) (PA ⟨(by omega),h46⟩ (PO (PA ⟨(by omega),(by first|omega|simp)⟩ (PA ⟨(by first|omega|simp),h47⟩ (PA ⟨(by first|omega|simp),(by omega)⟩ (PA ⟨(by omega),h48⟩ trivial)))))))))))))) (PC c15 (PC c23 (PC c44 PN))) LN hq
theorem z11r (h49 : ¬r40 = 0) (h50 : r7a.length + 1 <= 1099511627776) (h51 : t8a - (1 : Int) <= (9223372036854775807 : Int)) (hq : wq F.zf 0 Tryz.f68 0 (z1c n xs (t8a - (1 : Int)) c41 a42 h43 (r7a ++ [r11 + (1 : Int)])) Q) : wq F.zf 0 Tryz.f68 0 (z1c n xs t8a x500000_0a t500000_1a t500000_2a r7a) Q :=
 RS [true,true,true,true,true,false,false,true,true,true] (.normal (z1c n xs (t8a - (1 : Int)) c41 a42 h43 (r7a ++ [r11 + (1 : Int)]))) [decide (t8a > (0 : Int)) = true,inR (r11 + (1 : Int)),decide ((↑r7a.length : Int) > (1 : Int)) = true,decide ((↑r7a.length : Int) > (1 : Int)) = true,decide ((↑r7a.length : Int) > (1 : Int)) = true,decide ((↑r7a.length : Int) > (1 : Int)) = true,(r19 == (0 : Int)) = false,(r40 == (0 : Int)) = false,1 <= 1,0 = 0 /\ 1 = 1,0 + r7a.length = r7a.length /\ r7a.length + 1 <= 1099511627776,0 = 0 /\ r7a.length = r7a.length,inR (t8a - (1 : Int))] (PA (decide_eq_true h10) (PA ⟨h16,h17⟩ (PA (decide_eq_true h18) (PA (decide_eq_true h18) (PA (decide_eq_true h18) (PA (decide_eq_true h18) (PA (beq_false_of_ne h39) (PA (beq_false_of_ne h49) (PO (PA ⟨(by omega),(by first|omega|simp)⟩ (PA ⟨(by first|omega|simp),h50⟩ (PA ⟨(by first|omega|simp),(by omega)⟩ (PA ⟨(by omega),h51⟩ trivial))))))))))))) (PC c15 (PC c23 (PC c44 PN))) LN hq
end
end
section
variable (h52 : ¬(↑r7a.length : Int) > (1 : Int)) {r53 : Int} {c54 : List Int} {a55 h56 : Int} (c57 : Runs X F.z5 [.ptr 500000 0,iD 3] [⟨true,.var [.immI .u8 c12,iD a13,.int .u64 h14]⟩] ⟨iD r53,[some ⟨true,.var [.immI .u8 c54,iD a55,.int .u64 h56]⟩],[]⟩)
include h52 c57
theorem z11s (h58 : r53 = 0) (h59 : -(r11 + (1 : Int)) <= (9223372036854775807 : Int)) (h60 : t8a - (1 : Int) <= (9223372036854775807 : Int)) (hq : wq F.zf 0 Tryz.f68 0 (z1c n xs (t8a - (1 : Int)) c54 a55 h56 (r7a ++ [-(r11 + (1 : Int))])) Q) : wq F.zf 0 Tryz.f68 0 (z1c n xs t8a x500000_0a t500000_1a t500000_2a r7a) Q :=
 RS [true,false,false,false,false,false,true,true,true,true] (.normal (z1c n xs (t8a - (1 : Int)) c54 a55 h56 (r7a ++ [-(r11 + (1 : Int))]))) [decide (t8a > (0 : Int)) = true,inR (r11 + (1 : Int)),decide ((↑r7a.length : Int) > (1 : Int)) = false,decide ((↑r7a.length : Int) > (1 : Int)) = false,decide ((↑r7a.length : Int) > (1 : Int)) = false,decide ((↑r7a.length : Int) > (1 : Int)) = false,false = false,(r53 == (0 : Int)) = true,inR (-(r11 + (1 : Int))),1 <= 1,0 = 0 /\ 1 = 1,0 + r7a.length = r7a.length /\ r7a.length + 1 <= 1099511627776,0 = 0 /\ r7a.length = r7a.length,inR (t8a - (1 : Int))] (PA (decide_eq_true h10) (PA ⟨h16,h17⟩ (PA (decide_eq_false h52) (PA (decide_eq_false h52) (PA (decide_eq_false h52) (PA (decide_eq_false h52) (PO (PA (beq_iff_eq.2 h58) (PA ⟨(by omega),h59⟩ (PO (PA ⟨(by omega),(by first|omega|simp)⟩ (PA ⟨(by first|omega|simp),(by first|omega|simp)⟩ (PA ⟨(by first|omega|simp),(by omega)⟩ (PA ⟨(by omega),h60⟩ trivial)))))))))))))) (PC c15 (PC c57 PN)) LN hq
theorem z11t (h61 : ¬r53 = 0) (h62 : t8a - (1 : Int) <= (9223372036854775807 : Int)) (hq : wq F.zf 0 Tryz.f68 0 (z1c n xs (t8a - (1 : Int)) c54 a55 h56 (r7a ++ [r11 + (1 : Int)])) Q) : wq F.zf 0 Tryz.f68 0 (z1c n xs t8a x500000_0a t500000_1a t500000_2a r7a) Q :=
 RS [true,false,false,false,false,false,false,true,true,true] (.normal (z1c n xs (t8a - (1 : Int)) c54 a55 h56 (r7a ++ [r11 + (1 : Int)]))) [decide (t8a > (0 : Int)) = true,inR (r11 + (1 : Int)),decide ((↑r7a.length : Int) > (1 : Int)) = false,decide ((↑r7a.length : Int) > (1 : Int)) = false,decide ((↑r7a.length : Int) > (1 : Int)) = false,decide ((↑r7a.length : Int) > (1 : Int)) = false,false = false,(r53 == (0 : Int)) = false,1 <= 1,0 = 0 /\ 1 = 1,0 + r7a.length = r7a.length /\ r7a.length + 1 <= 1099511627776,0 = 0 /\ r7a.length = r7a.length,inR (t8a - (1 : Int))] (PA (decide_eq_true h10) (PA ⟨h16,h17⟩ (PA (decide_eq_false h52) (PA (decide_eq_false h52) (PA (decide_eq_false h52) (PA (decide_eq_false h52) (PO (PA (beq_false_of_ne h61) (PO (PA ⟨(by omega),(by first|omega|simp)⟩ (PA ⟨(by first|omega|simp),(by first|omega|simp)⟩ (PA ⟨(by first|omega|simp),(by omega)⟩ (PA ⟨(by omega),h62⟩ trivial))))))))))))) (PC c15 (PC c57 PN)) LN hq
end
end
theorem z11u {Q : Out -> Prop} {n : Int} {xs : List Int} (h2 : ¬n = 0) {t8a : Int} {x500000_0a : List Int} {t500000_1a t500000_2a : Int} {r7a : List Int} (h63 : ¬t8a > (0 : Int)) (hq : Q (z8v xs r7a x500000_0a t500000_1a t500000_2a).out) : wq F.zf 0 Tryz.f68 0 (z1c n xs t8a x500000_0a t500000_1a t500000_2a r7a) Q :=
 RS [false] (z8v xs r7a x500000_0a t500000_1a t500000_2a) [decide (t8a > (0 : Int)) = false] (PA (decide_eq_false h63) trivial) PN LN hq
theorem z11o {n m : Int} {xs c : List Int} {a h : Int} (h2 : ¬n = 0) (h3 : (-9223372036854775808 : Int) <= m + (1 : Int)) (h4 : m + (1 : Int) <= (9223372036854775807 : Int)) {r5 : Int} {c6 : List Int} {a7 h8 : Int} (c9 : Runs X F.z5 [.ptr 500000 0,iD (m + (1 : Int))] [⟨true,.var [.immI .u8 c,iD a,.int .u64 h]⟩] ⟨iD r5,[some ⟨true,.var [.immI .u8 c6,iD a7,.int .u64 h8]⟩],[]⟩) {r7az x500000_0az : List Int} {t500000_1az t500000_2az : Int} (l64 : wl F.zf 0 Tryz.f68 0 (z1c n xs r5 c6 a7 h8 []) (z8v xs r7az x500000_0az t500000_1az t500000_2az)) : Runs X F.zf [.ptr 500000 0,.agg [iD n,.rsl 500001 0 xs.length],iD m] [⟨true,.var [.immI .u8 c,iD a,.int .u64 h]⟩,⟨true,.ints .i64 xs⟩] ⟨.rsl 600000 0 r7az.length,[some ⟨true,.var [.immI .u8 x500000_0az,iD t500000_1az,.int .u64 t500000_2az]⟩,some ⟨true,.ints .i64 xs⟩],[⟨true,.ints .i64 r7az⟩]⟩ :=
 RG zlm [false] [(n == (0 : Int)) = false,inR (m + (1 : Int))] (PA (beq_false_of_ne h2) (PA ⟨h3,h4⟩ trivial)) (PC c9 PN) (LC l64 LN)
theorem zbv : X.ft F.z26 = some Tryz.f127 := by kernel_rfl
section
variable {n m : Int} {xs c : List Int} {a h : Int} {b1 : Bool} (c2 : Runs X F.za [alD n xs] [] (boolR b1))
include c2
theorem z12l (h3 : b1 = false) : Runs X F.z26 [.ptr 500000 0,.agg [iD n,.rsl 500001 0 xs.length],iD m] [⟨true,.var [.immI .u8 c,iD a,.int .u64 h]⟩,⟨true,.ints .i64 xs⟩] ⟨.rsl 600000 0 2,[some ⟨true,.var [.immI .u8 c,iD a,.int .u64 h]⟩,some ⟨true,.ints .i64 xs⟩],[⟨true,.ints .i64 [(1 : Int),(-1 : Int)]⟩]⟩ :=
 RG zbv [true,true] [0 + xs.length <= xs.length,0 = 0 /\ xs.length = xs.length,(!b1) = true] (PO (PA ⟨(by omega),(by omega)⟩ (PA (not_t h3) trivial))) (PC c2 PN) LN
theorem z12m (h4 : b1 = true) {ys5 c6 : List Int} {a7 h8 : Int} {xs9 : List Int} (c10 : Runs X F.zf [.ptr 500000 0,.agg [iD n,.rsl 500001 0 xs.length],iD m] [⟨true,.var [.immI .u8 c,iD a,.int .u64 h]⟩,⟨true,.ints .i64 xs⟩] ⟨.rsl 600000 0 ys5.length,[some ⟨true,.var [.immI .u8 c6,iD a7,.int .u64 h8]⟩,some ⟨true,.ints .i64 xs9⟩],[⟨true,.ints .i64 ys5⟩]⟩) {r11 : Int} {c12 : List Int} {a13 h14 : Int} (c15 : Runs X F.z5 [.ptr 500000 0,iD 28] [⟨true,.var [.immI .u8 c6,iD a7,.int .u64 h8]⟩] ⟨iD r11,[some ⟨true,.var [.immI .u8 c12,iD a13,.int .u64 h14]⟩],[]⟩) (h16 : r11 = 0) (h17 : (-9223372036854775808 : Int) <= n + (1 : Int)) (h18 : n + (1 : Int) <= (9223372036854775807 : Int)) (h19 : -n <= (9223372036854775807 : Int)) {r20 : Int} {c21 : List Int} {a22 h23 : Int} {ys24 : List Int} (c25 : Runs X F.z3z [.ptr 500000 0,.rsl 500001 0 4] [⟨true,.var [.immI .u8 c12,iD a13,.int .u64 h14]⟩,⟨true,.ints .i64 ([(0 : Int)] ++ [n + (1 : Int)] ++ [-n - (1 : Int)] ++ [(-4611686018427387904 : Int)])⟩] ⟨iD r20,[some ⟨true,.var [.immI .u8 c21,iD a22,.int .u64 h23]⟩,some ⟨true,.ints .i64 ys24⟩],[]⟩) (h26 : ys5.length + 1 <= 1099511627776) : Runs X F.z26 [.ptr 500000 0,.agg [iD n,.rsl 500001 0 xs.length],iD m] [⟨true,.var [.immI .u8 c,iD a,.int .u64 h]⟩,⟨true,.ints .i64 xs⟩] ⟨.rsl 600000 0 (ys5 ++ [r20]).length,[some ⟨true,.var [.immI .u8 c21,iD a22,.int .u64 h23]⟩,some ⟨true,.ints .i64 xs9⟩],[⟨true,.ints .i64 (ys5 ++ [r20])⟩]⟩ :=
 RG zbv [true,false,true,true,true,true] [0 + xs.length <= xs.length,0 = 0 /\ xs.length = xs.length,(!b1) = false,(r11 == (0 : Int)) = true,inR (n + (1 : Int)),inR (-n),inR (-n - (1 : Int)),1 <= 1,0 = 0 /\ 1 = 1,0 + ys5.length = ys5.length /\ ys5.length + 1 <= 1099511627776,0 = 0 /\ ys5.length = ys5.length] (PO (PA ⟨(by omega),(by omega)⟩ (PA (not_f h4) (PA (beq_iff_eq.2 h16) (PA ⟨h17,h18⟩ (PA ⟨(by omega),h19⟩ (PA ⟨(by omega),(by omega)⟩ (PO (PA ⟨(by omega),(by first|omega|simp)⟩ (PA ⟨(by first|omega|simp),h26⟩ (PA ⟨(by first|omega|simp),(by omega)⟩ trivial))))))))))) (PC c2 (PC c10 (PC c15 (PC c25 PN)))) LN
end
def z68 (n : Int) (xs xs9 x500000_0a : List Int) (t500000_1a t500000_2a : Int) (r7a : List Int) : LSt := ⟨mkE 52 0 [(0,.ptr 500000 0),(4,.ptr 1004 0),(7,.rsl 7 0 r7a.length)],[(500000,⟨true,.var [.immI .u8 x500000_0a,iD t500000_1a,.int .u64 t500000_2a]⟩),(1004,⟨true,.var [iD n,.rsl 500001 0 xs.length]⟩),(7,⟨true,.ints .i64 r7a⟩),(500001,⟨true,.ints .i64 xs9⟩)]⟩
def z7l (xs9 r7az x500000_0az : List Int) (t500000_1az t500000_2az : Int) : OutL := .exit 1 ⟨mkE 52 0 [(7,.rsl 7 0 r7az.length)],[(7,⟨true,.ints .i64 r7az⟩),(500000,⟨true,.var [.immI .u8 x500000_0az,iD t500000_1az,.int .u64 t500000_2az]⟩),(500001,⟨true,.ints .i64 xs9⟩)]⟩
section
variable {Q : Out -> Prop} {n : Int} {xs xs9 x500000_0a : List Int} {t500000_1a t500000_2a : Int} {r7a : List Int}
theorem z12o (h29 : n > (0 : Int)) (h30 : (↑r7a.length : Int) < (25 : Int)) {r31 : Int} {c32 : List Int} {a33 h34 : Int} (c35 : Runs X F.z5 [.ptr 500000 0,iD n] [⟨true,.var [.immI .u8 x500000_0a,iD t500000_1a,.int .u64 t500000_2a]⟩] ⟨iD r31,[some ⟨true,.var [.immI .u8 c32,iD a33,.int .u64 h34]⟩],[]⟩) (h36 : (-9223372036854775808 : Int) <= r31 + (1 : Int)) (h37 : r31 + (1 : Int) <= (9223372036854775807 : Int)) (hq : wq F.z26 1 Tryz.f127 0 (z68 n xs xs9 c32 a33 h34 (r7a ++ [r31 + (1 : Int)])) Q) : wq F.z26 1 Tryz.f127 0 (z68 n xs xs9 x500000_0a t500000_1a t500000_2a r7a) Q :=
 RS [true,true,true,true,true,true,true,true] (.normal (z68 n xs xs9 c32 a33 h34 (r7a ++ [r31 + (1 : Int)]))) [decide (n > (0 : Int)) = true,decide (n > (0 : Int)) = true,decide (n > (0 : Int)) = true,decide (n > (0 : Int)) = true,decide ((↑r7a.length : Int) < (25 : Int)) = true,inR (r31 + (1 : Int)),1 <= 1,0 = 0 /\ 1 = 1,0 + r7a.length = r7a.length /\ r7a.length + 1 <= 1099511627776,0 = 0 /\ r7a.length = r7a.length] (PA (decide_eq_true h29) (PA (decide_eq_true h29) (PA (decide_eq_true h29) (PA (decide_eq_true h29) (PA (decide_eq_true h30) (PA ⟨h36,h37⟩ (PO (PA ⟨(by omega),(by first|omega|simp)⟩ (PA ⟨(by first|omega|simp),(by first|omega|simp)⟩ (PA ⟨(by first|omega|simp),(by omega)⟩ trivial)))))))))) (PC c35 PN) LN hq
theorem zlr (h29 : n > (0 : Int)) (h38 : ¬(↑r7a.length : Int) < (25 : Int)) (hq : Q (z7l xs9 r7a x500000_0a t500000_1a t500000_2a).out) : wq F.z26 1 Tryz.f127 0 (z68 n xs xs9 x500000_0a t500000_1a t500000_2a r7a) Q :=
 RS [true,true,true,true,false] (z7l xs9 r7a x500000_0a t500000_1a t500000_2a) [decide (n > (0 : Int)) = true,decide (n > (0 : Int)) = true,decide (n > (0 : Int)) = true,decide (n > (0 : Int)) = true,decide ((↑r7a.length : Int) < (25 : Int)) = false] (PA (decide_eq_true h29) (PA (decide_eq_true h29) (PA (decide_eq_true h29) (PA (decide_eq_true h29) (PA (decide_eq_false h38) trivial))))) PN LN hq
theorem z12p (h39 : ¬n > (0 : Int)) (hq : Q (z7l xs9 r7a x500000_0a t500000_1a t500000_2a).out) : wq F.z26 1 Tryz.f127 0 (z68 n xs xs9 x500000_0a t500000_1a t500000_2a r7a) Q :=
 RS [false,false,false,false,false] (z7l xs9 r7a x500000_0a t500000_1a t500000_2a) [decide (n > (0 : Int)) = false,decide (n > (0 : Int)) = false,decide (n > (0 : Int)) = false,decide (n > (0 : Int)) = false,false = false] (PA (decide_eq_false h39) (PA (decide_eq_false h39) (PA (decide_eq_false h39) (PA (decide_eq_false h39) (PO trivial))))) PN LN hq
end
section
variable {n m : Int} {xs c : List Int} {a h : Int} {b1 : Bool} (c2 : Runs X F.za [alD n xs] [] (boolR b1)) (h4 : b1 = true) {ys5 c6 : List Int} {a7 h8 : Int} {xs9 : List Int} (c10 : Runs X F.zf [.ptr 500000 0,.agg [iD n,.rsl 500001 0 xs.length],iD m] [⟨true,.var [.immI .u8 c,iD a,.int .u64 h]⟩,⟨true,.ints .i64 xs⟩] ⟨.rsl 600000 0 ys5.length,[some ⟨true,.var [.immI .u8 c6,iD a7,.int .u64 h8]⟩,some ⟨true,.ints .i64 xs9⟩],[⟨true,.ints .i64 ys5⟩]⟩) {r11 : Int} {c12 : List Int} {a13 h14 : Int} (c15 : Runs X F.z5 [.ptr 500000 0,iD 28] [⟨true,.var [.immI .u8 c6,iD a7,.int .u64 h8]⟩] ⟨iD r11,[some ⟨true,.var [.immI .u8 c12,iD a13,.int .u64 h14]⟩],[]⟩) (h27 : ¬r11 = 0)
include c2 h4 c10 c15 h27
theorem zlq (h28 : r11 = 1) {r7az x500000_0az : List Int} {t500000_1az t500000_2az : Int} (l40 : wl F.z26 1 Tryz.f127 0 (z68 n xs xs9 c12 a13 h14 ys5) (z7l xs9 r7az x500000_0az t500000_1az t500000_2az)) : Runs X F.z26 [.ptr 500000 0,.agg [iD n,.rsl 500001 0 xs.length],iD m] [⟨true,.var [.immI .u8 c,iD a,.int .u64 h]⟩,⟨true,.ints .i64 xs⟩] ⟨.rsl 600000 0 r7az.length,[some ⟨true,.var [.immI .u8 x500000_0az,iD t500000_1az,.int .u64 t500000_2az]⟩,some ⟨true,.ints .i64 xs9⟩],[⟨true,.ints .i64 r7az⟩]⟩ :=
 RG zbv [true,false,false,true] [0 + xs.length <= xs.length,0 = 0 /\ xs.length = xs.length,(!b1) = false,(r11 == (0 : Int)) = false,(r11 == (1 : Int)) = true] (PO (PA ⟨(by omega),(by omega)⟩ (PA (not_f h4) (PA (beq_false_of_ne h27) (PA (beq_iff_eq.2 h28) trivial))))) (PC c2 (PC c10 (PC c15 PN))) (LC l40 LN)
theorem z12n (h41 : ¬r11 = 1) : Runs X F.z26 [.ptr 500000 0,.agg [iD n,.rsl 500001 0 xs.length],iD m] [⟨true,.var [.immI .u8 c,iD a,.int .u64 h]⟩,⟨true,.ints .i64 xs⟩] ⟨.rsl 600000 0 ys5.length,[some ⟨true,.var [.immI .u8 c12,iD a13,.int .u64 h14]⟩,some ⟨true,.ints .i64 xs9⟩],[⟨true,.ints .i64 ys5⟩]⟩ :=
 RG zbv [true,false,false,false] [0 + xs.length <= xs.length,0 = 0 /\ xs.length = xs.length,(!b1) = false,(r11 == (0 : Int)) = false,(r11 == (1 : Int)) = false] (PO (PA ⟨(by omega),(by omega)⟩ (PA (not_f h4) (PA (beq_false_of_ne h27) (PA (beq_false_of_ne h41) trivial))))) (PC c2 (PC c10 (PC c15 PN))) LN
end
theorem zlo : X.ft F.z67 = some Tryz.f105 := by kernel_rfl
section
variable {c : List Int} {l m : Int} {c1 : List Int} {h2 : Int} (c3 : Runs X F.z39 [.immI .u8 c] [] ⟨.ptr 600000 0,[],[⟨true,.var [.immI .u8 c1,iD 0,.int .u64 h2]⟩]⟩) {n4 : Int} {xs5 c6 : List Int} {a7 h8 : Int} (c9 : Runs X F.zu [.ptr 500000 0,iD l] [⟨true,.var [.immI .u8 c1,iD 0,.int .u64 h2]⟩] ⟨.agg [iD n4,.rsl 600000 0 xs5.length],[some ⟨true,.var [.immI .u8 c6,iD a7,.int .u64 h8]⟩],[⟨true,.ints .i64 xs5⟩]⟩) {r10 : Int} {c11 : List Int} {a12 h13 : Int} (c14 : Runs X F.z5 [.ptr 500000 0,iD 24] [⟨true,.var [.immI .u8 c6,iD a7,.int .u64 h8]⟩] ⟨iD r10,[some ⟨true,.var [.immI .u8 c11,iD a12,.int .u64 h13]⟩],[]⟩)
include c3 c9 c14
theorem z12c (h15 : r10 = 0) {n16 : Int} {xs17 c18 : List Int} {a19 h20 : Int} (c21 : Runs X F.z52 [.ptr 500000 0,iD l] [⟨true,.var [.immI .u8 c11,iD a12,.int .u64 h13]⟩] ⟨.agg [iD n16,.rsl 600000 0 xs17.length],[some ⟨true,.var [.immI .u8 c18,iD a19,.int .u64 h20]⟩],[⟨true,.ints .i64 xs17⟩]⟩) {ys22 c23 : List Int} {a24 h25 : Int} {xs26 : List Int} (c27 : Runs X F.z26 [.ptr 500000 0,.agg [iD n16,.rsl 500001 0 xs17.length],iD m] [⟨true,.var [.immI .u8 c18,iD a19,.int .u64 h20]⟩,⟨true,.ints .i64 xs17⟩] ⟨.rsl 600000 0 ys22.length,[some ⟨true,.var [.immI .u8 c23,iD a24,.int .u64 h25]⟩,some ⟨true,.ints .i64 xs26⟩],[⟨true,.ints .i64 ys22⟩]⟩) : Runs X F.z67 [.immI .u8 c,iD l,iD m] [] ⟨.tup [.ptr 600000 0,.agg [iD n16,.rsl 600001 0 xs17.length],.rsl 600002 0 ys22.length],[],[⟨true,.var [.immI .u8 c23,iD a24,.int .u64 h25]⟩,⟨true,.ints .i64 xs26⟩,⟨true,.ints .i64 ys22⟩]⟩ :=
 RG zlo [true] [(r10 == (0 : Int)) = true] (PA (beq_iff_eq.2 h15) trivial) (PC c3 (PC c9 (PC c14 (PC c21 (PC c27 PN))))) LN
theorem z12d (h28 : ¬r10 = 0) {ys29 c30 : List Int} {a31 h32 : Int} {xs33 : List Int} (c34 : Runs X F.z26 [.ptr 500000 0,.agg [iD n4,.rsl 500001 0 xs5.length],iD m] [⟨true,.var [.immI .u8 c11,iD a12,.int .u64 h13]⟩,⟨true,.ints .i64 xs5⟩] ⟨.rsl 600000 0 ys29.length,[some ⟨true,.var [.immI .u8 c30,iD a31,.int .u64 h32]⟩,some ⟨true,.ints .i64 xs33⟩],[⟨true,.ints .i64 ys29⟩]⟩) : Runs X F.z67 [.immI .u8 c,iD l,iD m] [] ⟨.tup [.ptr 600000 0,.agg [iD n4,.rsl 600001 0 xs5.length],.rsl 600002 0 ys29.length],[],[⟨true,.var [.immI .u8 c30,iD a31,.int .u64 h32]⟩,⟨true,.ints .i64 xs33⟩,⟨true,.ints .i64 ys29⟩]⟩ :=
 RG zlo [false] [(r10 == (0 : Int)) = false] (PA (beq_false_of_ne h28) trivial) (PC c3 (PC c9 (PC c14 (PC c34 PN)))) LN
end
end Go.PR.S

end

section
set_option maxRecDepth 20000
namespace Go.PR.S
open Go Go.PR Go.Proofs Gp
def SgW (n : Nat) (w : List Int) : Prop := ∀ x ∈ w,x ≠ 0 /\ -(n : Int) <= x /\ x <= n
theorem SgW.at {n : Nat} {w : List Int} (h : SgW n w) {i : Nat} (hi : i < w.length) : w.getD i 0 ≠ 0 /\ -(n : Int) <= w.getD i 0 /\ w.getD i 0 <= n := by
 rw [getD_lt hi]; exact h _ (List.getElem_mem hi)
abbrev iRow (xs : List Int) : Row := ⟨true,.ints .i64 xs⟩
section
variable {c : List Int} (hc : Bytes c)
include hc
theorem zt5 {N : Nat} {r24 : Int} {xs22 : List Int} (hx : xs22.length = N) (hN : N <= 8) (hfree : Runs X F.z1q [iD N] [] ⟨.agg [iD N,.rsl 600000 0 xs22.length],[],[iRow xs22]⟩) {t : Nat} (ht : t < N) :
  ∀ (k b : Nat) (a h : Int) (xs : List Int),b + k = t -> 0 <= a -> xs.length = N -> Msk xs -> ∃ a' h' ys,0 <= a' /\ ys.length = N /\ Msk ys /\
   WpL X F.zu 2 (lb Tryz.f119 1) (z40 N N xs22 r24 t b c a h xs).st (fun o => o = (zb9 N N xs22 r24 t c a' h' ys).out) := by
 intro k
 induction k with
 | zero => intro b a h xs hb ha hl hm; exact ⟨a,h,xs,ha,hl,hm,zzh hfree (by omega) (by omega) (by omega) rfl⟩
 | succ k ih =>
   intro b a h xs hb ha hl hm
   obtain ⟨r,a1,h1,ha1,hr0,_,_,hrun⟩ := z11 hc r24 a h ha
   by_cases hr : r = 0
   · obtain ⟨ys,hy1,hy2,hy3⟩ := zw7 (n := N) (xs := xs) (x := t) (y := b) (by omega) (by omega) (by omega) hm
     rw [show xs.length = xs22.length by omega] at hy3
     obtain ⟨a',h',zs,q1,q2,q3,q4⟩ := ih (b + 1) a1 h1 ys (by omega) ha1 (by omega) hy2
     exact ⟨a',h',zs,q1,q2,q3,zzf hfree (by omega) (by omega) (by omega) hrun hr hy3 (by omega) q4⟩
   · obtain ⟨a',h',zs,q1,q2,q3,q4⟩ := ih (b + 1) a1 h1 xs (by omega) ha1 hl hm
     exact ⟨a',h',zs,q1,q2,q3,zzg hfree (by omega) (by omega) (by omega) hrun hr (by omega) q4⟩
theorem zik {N : Nat} {r24 : Int} {xs22 : List Int} (hx : xs22.length = N) (hN : N <= 8) (hfree : Runs X F.z1q [iD N] [] ⟨.agg [iD N,.rsl 600000 0 xs22.length],[],[iRow xs22]⟩) :
  ∀ (k t : Nat) (a h : Int) (xs : List Int),t + k = N -> 0 <= a -> xs.length = N -> Msk xs -> ∃ a' h' ys,0 <= a' /\ ys.length = N /\ Msk ys /\
   WpL X F.zu 0 (lb Tryz.f119 0) (z7b N N xs22 r24 t c a h xs).st (fun o => o = (zb8 N xs22 ys c a' h').out) := by
 intro k
 induction k with
 | zero => intro t a h xs ht ha hl hm; exact ⟨a,h,xs,ha,hl,hm,zze hfree (by omega) (by omega) rfl⟩
 | succ k ih =>
   intro t a h xs ht ha hl hm
   obtain ⟨a1,h1,ys,g1,g2,g3,g4⟩ := zt5 hc (r24 := r24) hx hN hfree (t := t) (by omega) t 0 a h xs (by omega) ha hl hm
   obtain ⟨a',h',zs,q1,q2,q3,q4⟩ := ih (t + 1) a1 h1 ys (by omega) g1 g2 g3
   exact ⟨a',h',zs,q1,q2,q3,zzd hfree (by omega) (by omega) g4 (by omega) q4⟩
theorem zk3 {m : Int} (h4 : 4 <= m) (h8 : m <= 8) (a h : Int) (ha : 0 <= a) : ∃ (n : Nat) (xs : List Int) (a' h' : Int),0 <= a' /\ n <= 8 /\ xs.length = n /\ Msk xs /\
  Runs X F.zu [sp,iD m] [srcRow c a h] ⟨.agg [iD n,.rsl 600000 0 xs.length],[some (srcRow c a' h')],[iRow xs]⟩ := by
 obtain ⟨r,a1,h1,ha1,hr0,hr1,_,hrun⟩ := z11 hc 6 a h ha
 by_cases hr : r = 0
 · refine ⟨4,[11,7,14,13],a1,h1,ha1,by omega,rfl,?_,zza h4 hrun hr⟩
   intro x hx
   simp only [List.mem_cons,List.not_mem_nil,or_false] at hx
   rcases hx with rfl | rfl | rfl | rfl
   · exact ⟨11,rfl,by omega⟩
   · exact ⟨7,rfl,by omega⟩
   · exact ⟨14,rfl,by omega⟩
   · exact ⟨13,rfl,by omega⟩
 · obtain ⟨r2,a2,h2,ha2,hr20,hr21,_,hrun2⟩ := z11 hc (m + 1) a1 h1 ha1
   have hr21 := hr21 (by omega)
   by_cases hlt : r2 < 2
   · obtain ⟨r3,a3,h3,ha3,hr30,hr31,_,hrun3⟩ := z11 hc (m + 1) a2 h2 ha2
     have hr31 := hr31 (by omega)
     obtain ⟨N,rfl⟩ := Int.eq_ofNat_of_zero_le hr30
     obtain ⟨xs,hx1,hx2,hfree⟩ := zk4 (n := N) (by omega)
     obtain ⟨p,a4,h4',ha4,_,hpick⟩ := z75 hc [2,2,3,4] (by simp) a3 h3 ha3
     obtain ⟨a',h',ys,q1,q2,q3,q4⟩ := zik hc (r24 := p) hx1 (by omega) hfree N 0 a4 h4' xs (by omega) ha4 hx1 hx2
     refine ⟨N,ys,a',h',q1,by omega,q2,q3,?_⟩
     have := zzb h4 hrun hr (by omega) hrun2 hlt hrun3 hfree hpick q4
     rw [show xs.length = ys.length by omega] at this
     exact this
   · obtain ⟨N,rfl⟩ := Int.eq_ofNat_of_zero_le hr20
     obtain ⟨xs,hx1,hx2,hfree⟩ := zk4 (n := N) (by omega)
     obtain ⟨p,a4,h4',ha4,_,hpick⟩ := z75 hc [2,2,3,4] (by simp) a2 h2 ha2
     obtain ⟨a',h',ys,q1,q2,q3,q4⟩ := zik hc (r24 := p) hx1 (by omega) hfree N 0 a4 h4' xs (by omega) ha4 hx1 hx2
     refine ⟨N,ys,a',h',q1,by omega,q2,q3,?_⟩
     have := zzc h4 hrun hr (by omega) hrun2 hlt hfree hpick q4
     rw [show xs.length = ys.length by omega] at this
     exact this
theorem zw8 {m : Int} (h4 : 4 <= m) (h8 : m <= 8) (a h : Int) (ha : 0 <= a) : ∃ (n : Int) (xs : List Int) (a' h' : Int),0 <= a' /\ xs.length <= 9 /\
  Runs X F.z52 [sp,iD m] [srcRow c a h] ⟨.agg [iD n,.rsl 600000 0 xs.length],[some (srcRow c a' h')],[iRow xs]⟩ := by
 obtain ⟨n,xs,a1,h1,ha1,hn,hx,hm,hrun⟩ := zk3 hc h4 h8 a h ha
 obtain ⟨r,a2,h2,ha2,hr0,_,_,hrun2⟩ := z11 hc 14 a1 h1 ha1
 by_cases hr : r > 0
 · exact ⟨n,xs,a2,h2,ha2,by omega,z101 hrun hrun2 hr⟩
 · obtain ⟨r3,a3,h3,ha3,hr30,_,_,hrun3⟩ := z11 hc 4 a2 h2 ha2
   by_cases hz : r3 = 0
   · obtain ⟨p,a4,h4',ha4,_,hpick⟩ := z75 hc [-1,9,(n : Int) + 1] (by simp) a3 h3 ha3
     exact ⟨p,xs,a4,h4',ha4,by omega,z102 hrun hrun2 hr hrun3 hz (by omega) (by omega) hpick⟩
   · by_cases ho : r3 = 1
     · obtain ⟨p,a4,h4',ha4,_,hpick⟩ := z75 hc [0,1,255] (by simp) a3 h3 ha3
       have := z103 hrun hrun2 hr hrun3 hz ho hpick (by omega)
       exact ⟨n,xs ++ [p],a4,h4',ha4,by simp; omega,by simpa using this⟩
     · by_cases hpos : (n : Int) > 0
       · obtain ⟨r4,a4,h4',ha4,hr40,hr41,_,hrun4⟩ := z11 hc n a3 h3 ha3
         have hr41 := hr41 (by omega)
         obtain ⟨q,rfl⟩ := Int.eq_ofNat_of_zero_le hr40
         obtain ⟨k,hk,hk2⟩ := hm.at (i := 0 + (q : Int).toNat) (by omega)
         have c47 := z5x (i := q) (by omega)
         have c51 := z5x (i := n) (by omega)
         obtain ⟨r5,a5,h5,ha5,_,_,_,hrun5⟩ := z11 hc ((2 ^ n : Nat) : Int) a4 h4' ha4
         obtain ⟨p,a6,h6,ha6,_,hpick⟩ := z75 hc ([xs.getD (0 + (q : Int).toNat) 0 - ((2 ^ q : Nat) : Int)] ++ [ior (xs.getD (0 + (q : Int).toNat) 0) ((2 ^ n : Nat) : Int)] ++ [r5] ++ [-1]) (by simp) a5 h5 ha5
         have hp : ((2 ^ q : Nat) : Int) < 256 := by obtain ⟨k,e,hk⟩ := pow_msk (i := q) (by omega); omega
         have hp0 : (0 : Int) <= ((2 ^ q : Nat) : Int) := Int.natCast_nonneg _
         have := z104 hrun hrun2 hr hrun3 hz ho hpos hrun4 hr40 (by omega) c47 (by rw [hk]; omega) (by rw [hk]; omega) c51 c51 hrun5 hpick
         exact ⟨n,xs.set (0 + (q : Int).toNat) p,a6,h6,ha6,by rw [List.length_set]; omega,by rw [List.length_set]; exact this⟩
       · exact ⟨n,xs,a3,h3,ha3,by omega,z105 hrun hrun2 hr hrun3 hz ho hpos⟩
theorem zt7 {n : Nat} (hn : 1 <= n) (hn8 : n <= 8) (xs : List Int) : ∀ (k : Nat) (a h : Int) (w : List Int),k <= 64 -> 0 <= a -> w.length + k <= 64 -> SgW n w -> ∃ a' h' ys,0 <= a' /\ ys.length <= w.length + k /\ SgW n ys /\
   WpL X F.zf 0 (lb Tryz.f68 0) (z1c n xs k c a h w).st (fun o => o = (z8v xs ys c a' h').out) := by
 intro k
 induction k with
 | zero => intro a h w _ ha hl hb; exact ⟨a,h,w,ha,by omega,hb,z11u (by omega) (by omega) rfl⟩
 | succ k ih =>
   intro a h w hk ha hl hb
   have e : (((k + 1 : Nat) : Int) - 1) = (k : Int) := by omega
   obtain ⟨r,a1,h1,ha1,hr0,hr1,_,hrun⟩ := z11 hc n a h ha
   have hr1 := hr1 (by omega)
   have step : ∀ (x : Int),(x ≠ 0 /\ -(n : Int) <= x /\ x <= n) -> SgW n (w ++ [x]) := fun x hx y hy => by
    rcases List.mem_append.1 hy with hy | hy
    · exact hb y hy
    · rw [List.mem_singleton.1 hy]; exact hx
   have next : ∀ (x : Int) (a2 h2 : Int),0 <= a2 -> (x ≠ 0 /\ -(n : Int) <= x /\ x <= n) -> ∃ a' h' ys,0 <= a' /\ ys.length <= w.length + (k + 1) /\ SgW n ys /\
     WpL X F.zf 0 (lb Tryz.f68 0) (z1c n xs (((k + 1 : Nat) : Int) - 1) c a2 h2 (w ++ [x])).st (fun o => o = (z8v xs ys c a' h').out) := fun x a2 h2 ha2 hx => by
    obtain ⟨a',h',ys,q1,q2,q3,q4⟩ := ih a2 h2 (w ++ [x]) (by omega) ha2 (by simp; omega) (step x hx)
    rw [e]
    exact ⟨a',h',ys,q1,by simp at q2; omega,q3,q4⟩
   by_cases hw : (w.length : Int) > 1
   · obtain ⟨r2,a2,h2,ha2,hr20,_,_,hrun2⟩ := z11 hc 4 a1 h1 ha1
     by_cases hz : r2 = 0
     · obtain ⟨r3,a3,h3,ha3,hr30,hr31,_,hrun3⟩ := z11 hc 2 a2 h2 ha2
       have hr31 := hr31 (by omega)
       have hx := hb.at (i := 0 + ((w.length : Int) - 1 - r3).toNat) (by omega)
       obtain ⟨a',h',ys,q1,q2,q3,q4⟩ := next (-w.getD (0 + ((w.length : Int) - 1 - r3).toNat) 0) a3 h3 ha3 (by omega)
       exact ⟨a',h',ys,q1,q2,q3,z11p (by omega) (by omega) hrun (by omega) (by omega) hw hrun2 hz (by omega) hrun3 (by omega) (by omega) (by omega) (by omega) (by omega) (by omega) (by omega) (by omega) q4⟩
     · obtain ⟨r3,a3,h3,ha3,hr30,_,_,hrun3⟩ := z11 hc 3 a2 h2 ha2
       by_cases h30 : r3 = 0
       · obtain ⟨a',h',ys,q1,q2,q3,q4⟩ := next (-(r + 1)) a3 h3 ha3 (by omega)
         exact ⟨a',h',ys,q1,q2,q3,z11q (by omega) (by omega) hrun (by omega) (by omega) hw hrun2 hz hrun3 h30 (by omega) (by omega) (by omega) q4⟩
       · obtain ⟨a',h',ys,q1,q2,q3,q4⟩ := next (r + 1) a3 h3 ha3 (by omega)
         exact ⟨a',h',ys,q1,q2,q3,z11r (by omega) (by omega) hrun (by omega) (by omega) hw hrun2 hz hrun3 h30 (by omega) (by omega) q4⟩
   · obtain ⟨r3,a3,h3,ha3,hr30,_,_,hrun3⟩ := z11 hc 3 a1 h1 ha1
     by_cases h30 : r3 = 0
     · obtain ⟨a',h',ys,q1,q2,q3,q4⟩ := next (-(r + 1)) a3 h3 ha3 (by omega)
       exact ⟨a',h',ys,q1,q2,q3,z11s (by omega) (by omega) hrun (by omega) (by omega) hw hrun3 h30 (by omega) (by omega) q4⟩
     · obtain ⟨a',h',ys,q1,q2,q3,q4⟩ := next (r + 1) a3 h3 ha3 (by omega)
       exact ⟨a',h',ys,q1,q2,q3,z11t (by omega) (by omega) hrun (by omega) (by omega) hw hrun3 h30 (by omega) q4⟩
theorem zei {n : Nat} (hn8 : n <= 8) {m : Nat} (hm : m <= 32) (xs : List Int) (a h : Int) (ha : 0 <= a) : ∃ (ys : List Int) (a' h' : Int),0 <= a' /\ ys.length <= m /\ SgW n ys /\
  Runs X F.zf [sp,.agg [iD n,.rsl 500001 0 xs.length],iD m] [srcRow c a h,iRow xs] ⟨.rsl 600000 0 ys.length,[some (srcRow c a' h'),some (iRow xs)],[iRow ys]⟩ := by
 by_cases hz : (n : Int) = 0
 · exact ⟨[],a,h,ha,by simp,(fun x hx => by cases hx),z11n hz⟩
 · obtain ⟨r,a1,h1,ha1,hr0,hr1,_,hrun⟩ := z11 hc ((m : Int) + 1) a h ha
   have hr1 := hr1 (by omega)
   obtain ⟨k,rfl⟩ := Int.eq_ofNat_of_zero_le hr0
   obtain ⟨a',h',ys,q1,q2,q3,q4⟩ := zt7 hc (n := n) (by omega) hn8 xs k a1 h1 [] (by omega) ha1 (by simp; omega) (fun x hx => by cases hx)
   exact ⟨ys,a',h',q1,by simp at q2; omega,q3,z11o hz (by omega) (by omega) hrun q4⟩
theorem zt8 {n : Nat} (hn : 1 <= n) (hn8 : n <= 8) (xs xs9 : List Int) : ∀ (k : Nat) (a h : Int) (w : List Int),0 <= a -> w.length + k = 33 -> ∃ a' h' ys,0 <= a' /\ ys.length <= 33 /\
   WpL X F.z26 1 (lb Tryz.f127 0) (z68 n xs xs9 c a h w).st (fun o => o = (z7l xs9 ys c a' h').out) := by
 intro k
 induction k with
 | zero => intro a h w ha hl; exact ⟨a,h,w,ha,by omega,zlr (by omega) (by omega) rfl⟩
 | succ k ih =>
   intro a h w ha hl
   by_cases hlt : (w.length : Int) < 25
   · obtain ⟨r,a1,h1,ha1,hr0,hr1,_,hrun⟩ := z11 hc n a h ha
     have hr1 := hr1 (by omega)
     obtain ⟨a',h',ys,q1,q2,q3⟩ := ih a1 h1 (w ++ [r + 1]) ha1 (by simp; omega)
     exact ⟨a',h',ys,q1,q2,z12o (by omega) hlt hrun (by omega) (by omega) q3⟩
   · exact ⟨a,h,w,ha,by omega,zlr (by omega) hlt rfl⟩
theorem zk7 (n : Int) {m : Nat} (hm : m <= 32) (xs : List Int) (hxs : xs.length <= B40) (a h : Int) (ha : 0 <= a) : ∃ (ys : List Int) (a' h' : Int),0 <= a' /\ ys.length <= 33 /\
  Runs X F.z26 [sp,.agg [iD n,.rsl 500001 0 xs.length],iD m] [srcRow c a h,iRow xs] ⟨.rsl 600000 0 ys.length,[some (srcRow c a' h'),some (iRow xs)],[iRow ys]⟩ := by
 have c2 := zee n xs hxs
 cases hal : alOK n xs with
 | false => rw [hal] at c2; exact ⟨[1,-1],a,h,ha,by simp,z12l c2 rfl⟩
 | true =>
   rw [hal] at c2
   have hn8 := alOK_n hal
   obtain ⟨N,rfl⟩ := Int.eq_ofNat_of_zero_le hn8.1
   obtain ⟨ys,a1,h1,ha1,hy,hb,hrun⟩ := zei hc (n := N) (by omega) hm xs a h ha
   obtain ⟨r,a2,h2,ha2,_,_,_,hrun2⟩ := z11 hc 28 a1 h1 ha1
   by_cases hz : r = 0
   · obtain ⟨p,a3,h3,ha3,_,hpick⟩ := z75 hc ([0] ++ [(N : Int) + 1] ++ [-(N : Int) - 1] ++ [-4611686018427387904]) (by simp) a2 h2 ha2
     have := z12m c2 rfl hrun hrun2 hz (by omega) (by omega) (by omega) hpick (by omega)
     exact ⟨ys ++ [p],a3,h3,ha3,by simp; omega,by simpa using this⟩
   · by_cases ho : r = 1
     · by_cases hpos : (N : Int) > 0
       · obtain ⟨a',h',zs,q1,q2,q3⟩ := zt8 hc (n := N) (by omega) (by omega) xs xs (33 - ys.length) a2 h2 ys ha2 (by omega)
         exact ⟨zs,a',h',q1,q2,zlq c2 rfl hrun hrun2 hz ho q3⟩
       · exact ⟨ys,a2,h2,ha2,by omega,zlq c2 rfl hrun hrun2 hz ho (z12p hpos rfl)⟩
     · exact ⟨ys,a2,h2,ha2,by omega,z12n c2 rfl hrun hrun2 hz ho⟩
theorem zwd {l : Int} (h4 : 4 <= l) (h8 : l <= 8) {m : Nat} (hm : m <= 32) : ∃ (a h n : Int) (xs ys : List Int),0 <= a /\ xs.length <= 9 /\ ys.length <= 33 /\
  Runs X F.z67 [bD c,iD l,iD m] [] ⟨.tup [.ptr 600000 0,.agg [iD n,.rsl 600001 0 xs.length],.rsl 600002 0 ys.length],[],[srcRow c a h,iRow xs,iRow ys]⟩ := by
 obtain ⟨h0,hfrom⟩ := zw3 hc
 obtain ⟨n,xs,a1,h1,ha1,hn,hx,hmk,hrun⟩ := zk3 hc h4 h8 0 h0 (by omega)
 obtain ⟨r,a2,h2,ha2,_,_,_,hrun2⟩ := z11 hc 24 a1 h1 ha1
 by_cases hz : r = 0
 · obtain ⟨n',xs',a3,h3,ha3,hx',hrun3⟩ := zw8 hc h4 h8 a2 h2 ha2
   obtain ⟨ys,a4,h4',ha4,hy,hrun4⟩ := zk7 hc n' hm xs' (by unfold B40; omega) a3 h3 ha3
   exact ⟨a4,h4',n',xs',ys,ha4,hx',hy,z12c hfrom hrun hrun2 hz hrun3 hrun4⟩
 · obtain ⟨ys,a4,h4',ha4,hy,hrun4⟩ := zk7 hc n hm xs (by unfold B40; omega) a2 h2 ha2
   exact ⟨a4,h4',n,xs,ys,ha4,by omega,hy,z12d hfrom hrun hrun2 hz hrun4⟩
end
end Go.PR.S

end
