/- The functions' numbers, by name (written by names.py). -/
import GoSem.Core.Code
import Derived.Test.YtkoednplncfgaaaFwAb
import Derived.KernelRfl
import Derived.Test.YtkoednplncfgaaaProg
import Derived.Test.YtkoednplncfgaaaChecked
import Derived.Test.YtkoednplncfgaaaRows
import Derived.ProofKit
import Derived.LaidMore
import Derived.OpenShut
import Derived.Stop.Joined
import Derived.Lib.SmallJoins
section
/- The functions' numbers, by name (written by names.py). -/
namespace Go.PR.S.F
open Go
abbrev main_main : FuncId := 0
abbrev gosem_cut : FuncId := 1
abbrev gosem_cut_init : FuncId := 2
abbrev laws_FnExactNewDesk : FuncId := 3
abbrev laws_FnExactEndsAlways : FuncId := 4
abbrev spec_NewDesk : FuncId := 5
abbrev impl_NewDesk : FuncId := 6
abbrev laws_eqDesk : FuncId := 7
abbrev laws_markDesk : FuncId := 8
abbrev laws_heldDesk : FuncId := 9
abbrev laws_szAutomaton : FuncId := 10
abbrev spec_EndsAlways : FuncId := 11
abbrev laws_toAutomaton : FuncId := 12
abbrev impl_EndsAlways : FuncId := 13
abbrev laws_eqAutomaton : FuncId := 14
abbrev spec_l20New : FuncId := 15
abbrev impl_loose : FuncId := 16
abbrev impl_allWords : FuncId := 17
abbrev laws_eqAlphabet : FuncId := 18
abbrev laws_eqInt64S : FuncId := 19
abbrev laws_eqNet : FuncId := 20
abbrev laws_markAlphabet : FuncId := 21
abbrev laws_markInt64S : FuncId := 22
abbrev laws_markAutomaton : FuncId := 23
abbrev laws_markNet : FuncId := 24
abbrev laws_heldAlphabet : FuncId := 25
abbrev laws_heldInt64S : FuncId := 26
abbrev laws_heldAutomaton : FuncId := 27
abbrev laws_heldNet : FuncId := 28
abbrev laws_szInt64SS : FuncId := 29
abbrev spec_l11Is : FuncId := 30
abbrev spec_l19Ends : FuncId := 31
abbrev laws_toInt64SS : FuncId := 32
abbrev impl_IsAutomaton : FuncId := 33
abbrev impl_machineOf : FuncId := 34
abbrev impl_machine_ends : FuncId := 35
abbrev laws_eqInt64SS : FuncId := 36
abbrev spec_l11All : FuncId := 37
abbrev impl_one : FuncId := 38
abbrev laws_markInt64SS : FuncId := 39
abbrev laws_heldInt64SS : FuncId := 40
abbrev laws_szInt64S : FuncId := 41
abbrev spec_l11States : FuncId := 42
abbrev spec_l01In : FuncId := 43
abbrev spec_l01Full : FuncId := 44
abbrev spec_l01Bit : FuncId := 45
abbrev spec_l01One : FuncId := 46
abbrev laws_toInt64S : FuncId := 47
abbrev impl_lengthSint64 : FuncId := 48
abbrev impl_inRange : FuncId := 49
abbrev impl_IsMask : FuncId := 50
abbrev slices_ContainsFuncSSint64Sint64 : FuncId := 51
abbrev impl_IsAutomatonk1 : FuncId := 52
abbrev impl_lengthint64 : FuncId := 53
abbrev impl_allIn : FuncId := 54
abbrev impl_has : FuncId := 55
abbrev slices_ContainsFuncSint64int64 : FuncId := 56
abbrev impl_machine_endsk1 : FuncId := 57
abbrev slices_ContainsSboolbool : FuncId := 58
abbrev slices_IndexFuncSSint64Sint64 : FuncId := 59
abbrev impl_allInk1 : FuncId := 60
abbrev slices_IndexFuncSint64int64 : FuncId := 61
abbrev slices_IndexSboolbool : FuncId := 62
abbrev runtime_boundsError_Error : FuncId := 63
abbrev runtime_boundsError_RuntimeError : FuncId := 64
abbrev runtime_errorString_Error : FuncId := 65
abbrev runtime_errorString_RuntimeError : FuncId := 66
abbrev runtime_plainError_Error : FuncId := 67
abbrev runtime_plainError_RuntimeError : FuncId := 68
abbrev runtime_errorAddressString_Error : FuncId := 69
abbrev runtime_errorAddressString_RuntimeError : FuncId := 70
abbrev runtime_TypeAssertionError_Error : FuncId := 71
abbrev runtime_TypeAssertionError_RuntimeError : FuncId := 72
abbrev runtime_PanicNilError_Error : FuncId := 73
abbrev runtime_PanicNilError_RuntimeError : FuncId := 74
abbrev abi_Type_Align : FuncId := 75
abbrev maps_unhashableTypeError_Error : FuncId := 76
abbrev maps_unhashableTypeError_RuntimeError : FuncId := 77
abbrev impl_Alphabet_tie : FuncId := 78
abbrev impl_Net_enabled : FuncId := 79
abbrev impl_Desk_failed : FuncId := 80
abbrev abi_Kind_String : FuncId := 81
end Go.PR.S.F

end

section
/- The seat's context: what the evaluator is told of this program. -/
set_option linter.unusedVariables false
namespace Go.PR.S
open Go Go.PR Go.Proofs

def byrefTab : List Nat := [8, 21, 22, 23, 24, 39]
def byref (f : FuncId) : Bool := byrefTab.contains f
def keepHint (f : FuncId) (b : Nat) : Option Hint := none
def glob (g : Nat) : Option D := none
def prim (f : FuncId) (args : List D) (prows : List Row) : Option Ret := none
def nilPos (s : String) : Bool := false
def nestPos (s : String) : Bool := ["l11_automata.go:509", "l20_console.go:23"].contains s

noncomputable def X : Ctx := ctxOf Try.prog glob byref keepHint prim nilPos nestPos

end Go.PR.S

end

section
/- What the evaluator says holds of the model. -/
set_option linter.unusedVariables false
namespace Go.PR.S
open Go Go.PR Go.Proofs

theorem prim_sound : ∀ f args prows r, X.prim f args prows = some r → Sound Try.prog X f args prows r := by
  intro f args prows r h
  cases h

theorem X_ok : XOK Try.prog X := ctxOf_ok (by kernel_rfl)

end Go.PR.S

end

section
/- The law NewDesk, evaluated. -/
namespace Go.PR.S
open Go Go.PR Go.Proofs
set_option maxRecDepth 100000
theorem eval_NewDesk : evalFn X 40 F.laws_FnExactNewDesk [] [] = some (boolR true) := by kernel_rfl
end Go.PR.S

end

section
/- Closing a law: from a run of the law that comes to true, to what the given row says behind the call. -/
set_option linter.unusedVariables false
set_option maxRecDepth 100000
namespace Go.PR.S
open Go Go.PR Go.Proofs Go.ChangeShapes Go.WideShapes Go.ChangeAt Go.RowKit Go.WideElems

def NoB : Nat → Prop := fun _ => False

theorem law_calls {f : FuncId} {args : List D} {vs : List Value} {W : World} {b : Bool} (hr : evalFn X 40 f args [] = some (boolR b)) (ha : RepL W NoB mu0 args vs) :
    Calls Try.prog f vs.toArray W fun e W' => e = .returned (.bool b) ∧ Below W.heap.size W W' := by
  have hs : SR X.glob (Fset W mu0 ([] : List Row).length) W ⟨NoB, mu0⟩ W NoB mu0 vs.toArray ⟨args, rowsIn []⟩ :=
    { env := by simpa using ha
      rows := fun id row h => by
        simp only [rowsIn] at h
        split at h <;> simp at h
      apart := fun i j ri rj b hij hi hj => by
        simp only [rowsIn] at hi
        split at hi <;> simp at hi
      keeps := Keeps.refl _ _
      m1 := fun b _ h => h
      m2 := fun b h _ => h
      mlt := fun b h => h.elim
      fr := fun b h => .inl h
      glob := fun g d h => by cases h
      pin := fun i _ => rfl }
  refine (evalFn_sound X_ok prim_sound 40 f args [] _ hr W NoB mu0 vs hs).mono fun e W' ⟨v, M', mu', he, hsr⟩ => ?_
  have hv : v = .bool b := hsr.env.1
  subst hv
  refine ⟨he, hsr.keeps.os, hsr.keeps.tape, hsr.keeps.output, hsr.keeps.size, fun k hk => hsr.keeps.block k hk ?_⟩
  rintro (h | ⟨j, hj, _⟩)
  · omega
  · simp at hj

section
variable {H : Type} {enc : TypeId × Value → H} {W W' : World}

theorem laidOut : laidOutB Try.prog = true := by kernel_rfl

theorem trodAll_below (hb : Below W.heap.size W W') (ts : List TypeId) : ∀ {vs : List Value} {ds : List (DataW H)} {ps : List MemPlace},
    (ts.all fun t => Try.prog.readableRec t && decide (t < Try.prog.types.size)) = true → DataW.TrodAll enc Try.prog W 0 (fun _ => true) true ts vs ds ps → (∀ p ∈ ps, p.block < W.heap.size) →
    DataW.TrodAll enc Try.prog W' 0 (fun b => decide (b < W.heap.size)) true ts vs ds ps := by
  induction ts with
  | nil =>
    intro vs ds ps _ h _
    cases vs with
    | nil => cases ds with
      | nil => exact h
      | cons _ _ => exact h.elim
    | cons _ _ => exact h.elim
  | cons t ts ih =>
    intro vs ds ps hr h hl
    obtain ⟨v, vs', d, ds', p, q, rfl, rfl, rfl, h1, h2⟩ := trodAll_cons h
    rw [List.all_cons, Bool.and_eq_true, Bool.and_eq_true, decide_eq_true_eq] at hr
    exact trodAll_cons_mk (Below.trod laidOut hr.1.1 hr.1.2 h1 hb fun x hx => hl x (List.mem_append_left _ hx))
      (ih hr.2 h2 fun x hx => hl x (List.mem_append_right _ hx))

theorem law_post {f : Func} {s : ChangeSpec} {args : Array Value} {ds gs : List (DataW H)} {before : List MemPlace}
    (hp : (f.params.toList.all fun t => Try.prog.readableRec t && decide (t < Try.prog.types.size)) = true) (hrt : f.resultTypes = #[4]) (hsv : s.vars = [])
    (hW : DataW.Whole enc Try.prog f.params.toList s.vars false W args.toList ds gs before)
    (h1 : (s.fn H (ds ++ gs)).results = [.lit (.bool true)]) (h2 : (s.fn H (ds ++ gs)).args = ds) (h3 : (s.fn H (ds ++ gs)).vars = []) (hb : Below W.heap.size W W') :
    s.post enc Try.prog f false true false false W args (.bool true) W' := by
  have hlt := hW.lt
  have hW' := hW
  obtain ⟨p, q, hA, hV, e, _⟩ := hW'
  rw [hsv] at hV
  obtain ⟨rfl, rfl⟩ := trodVars_none hV
  rw [List.append_nil] at e
  subst e
  refine ⟨ds, [], before, [], before, [], hW, ?_, ?_, ?_, Below.frame hb _, fun h => by cases h⟩
  · rw [hrt, h1]
    exact trodAll_mk1 (shut_bool Try.underlying4 _)
  · rw [h2]
    exact trodAll_below hb _ hp hA hlt
  · rw [hsv, h3]
    rfl

end
end Go.PR.S

end
