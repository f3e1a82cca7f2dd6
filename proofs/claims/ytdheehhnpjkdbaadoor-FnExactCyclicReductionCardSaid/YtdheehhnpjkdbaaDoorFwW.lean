/- Small rules for the generated lemmas. -/
import Derived.Test.YtdheehhnpjkdbaaDoorFwV6
namespace Go.PR
open Go
theorem AllP.c {p : Prop} {ps : List Prop} (h : p) (hs : AllP ps) : AllP (p :: ps) := by
  cases ps with
  | nil => exact h
  | cons q qs => exact ⟨h, hs⟩
theorem AllC.c {X : Ctx} {p : Known} {ps : List Known} (h : Runs X p.f p.args p.prows p.ret) (hs : AllC X ps) : AllC X (p :: ps) := by
  cases ps with
  | nil => exact h
  | cons q qs => exact ⟨h, hs⟩
theorem AllL.c {X : Ctx} {f : FuncId} {p : LoopAt} {ps : List LoopAt} (h : WpL X f p.bid p.body p.s.st (fun o => o = p.out.out)) (hs : AllL X f ps) : AllL X f (p :: ps) := by
  cases ps with
  | nil => exact h
  | cons q qs => exact ⟨h, hs⟩
theorem not_t {b : Bool} (h : b = false) : (!b) = true := by rw [h]; rfl
theorem not_f {b : Bool} (h : b = true) : (!b) = false := by rw [h]; rfl
end Go.PR
