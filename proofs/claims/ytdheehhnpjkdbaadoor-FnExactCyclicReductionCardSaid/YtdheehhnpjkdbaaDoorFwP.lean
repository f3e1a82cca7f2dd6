/- The evaluator's tables, read off the program. -/
import Derived.Test.YtdheehhnpjkdbaaDoorFwO
set_option linter.unusedVariables false
set_option linter.unusedSimpArgs false
namespace Go.PR
open Go

def zeroD : Value → D
  | .int k n => .int k n
  | .bool b => .bool b
  | .string s => .str s
  | .slice none 0 0 => .nil .unk
  | _ => .any

def kindOf : TypeDesc → TK
  | .int k => .int k
  | .bool => .bool
  | .string => .str
  | .slice e => .slice e
  | .struct fs => .struct (fs.toList.map fun f => (f.offset, f.type))
  | .array n e => .array n e
  | .map k e => .map k e
  | _ => .other

def ttOf (P : Program) (t : TypeId) : Option TI :=
  match P.info? t, P.underlying t with
  | some ti, some d => match ti.zero with
    | some z => if zerosOK (z.cells.toList.map zeroD) z.cells.toList && z.cells.size == ti.size then some ⟨kindOf d, ti.size, ti.bytes, z.cells.toList.map zeroD⟩ else none
    | none => none
  | _, _ => none

def ftOf (P : Program) (f : FuncId) : Option Func :=
  match P.funcs[f]? with
  | some fn => if (fn.name == "runtime.NumGoroutine") || fn.body.isNone then none else some fn
  | none => none

def ctxOf (P : Program) (glob : Nat → Option D) (byref : FuncId → Bool) (keep : FuncId → Nat → Option Hint) (prim : FuncId → List D → List Row → Option Ret) : Ctx := ⟨ttOf P, glob, ftOf P, byref, keep, prim⟩

theorem ctxOf_ok {P : Program} {glob : Nat → Option D} {byref : FuncId → Bool} {keep : FuncId → Nat → Option Hint} {prim : FuncId → List D → List Row → Option Ret} (hm : P.follows .mixedOrders = true) : XOK P (ctxOf P glob byref keep prim) where
  tt := fun t i h => by
    simp only [ctxOf, ttOf] at h
    split at h
    case h_2 => cases h
    rename_i ti d h1 h2
    split at h
    case h_2 => cases h
    rename_i z hz
    split at h
    case isFalse => cases h
    rename_i hc
    simp only [Bool.and_eq_true, beq_iff_eq] at hc
    cases h
    refine ⟨⟨ti, z, h1, rfl, rfl, hz, hc.1, hc.2⟩, ?_⟩
    unfold kindOf
    cases d <;> simp only [KindOK] <;> first | exact h2 | exact ⟨_, h2, rfl⟩
  ft := fun f fn h => by
    simp only [ctxOf, ftOf] at h
    split at h
    case h_2 => cases h
    rename_i fn' hf
    split at h
    · cases h
    · rename_i hc
      cases h
      simp only [Bool.or_eq_true, not_or, Bool.not_eq_true] at hc
      exact ⟨hf, hc.1, hc.2⟩
  mixed := hm

end Go.PR
