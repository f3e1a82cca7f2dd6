/- A round of a loop, its end cut down to what lives. -/
import Derived.Test.YtdheehhnpjkdbaaDoorFwV5
set_option linter.unusedVariables false
set_option linter.unusedSimpArgs false
namespace Go.PR
open Go

/-- A round, from a loop's head to what lives behind it. -/
def roundV (X : Ctx) (f : FuncId) (bid : Nat) (body : Code) (s : LSt) : V OutL :=
  vbind (codeV X f bid body (keepL (X.keep f bid) s)) fun o => match o with
    | .normal s' => vpure (.normal (keepL (X.keep f bid) s'))
    | o => vpure (o.keep (X.keep f bid))

theorem roundV_path {X : Ctx} {f : FuncId} {bid : Nat} {body : Code} {s : LSt} {vs vs' : VS} {o : OutL} {l : VL} {Q : Out → Prop} (h : roundV X f bid body s vs = .ok o vs' l) (ho : AllP l.obs) (hc : AllC X l.calls) (hl : AllL X f l.loops)
    (hq : match o with | .normal s' => WpL X f bid body s'.st Q | o => Q o.out) : WpL X f bid body s.st Q := by
  unfold roundV vbind at h
  cases e : codeV X f bid body (keepL (X.keep f bid) s) vs with
  | stop w l1 => rw [e] at h; cases h
  | ok o1 v1 l1 =>
    rw [e] at h
    have hl1 : l1.app ⟨[], [], []⟩ = l1 := by simp [VL.app]
    cases o1 with
    | normal s' =>
      simp only [vpure, hl1] at h
      cases h
      exact WpL.path e ho hc hl (WpL.congr (keepL_keep _ _) hq)
    | exit i s' =>
      simp only [vpure, hl1] at h
      cases h
      exact WpL.path e ho hc hl hq
    | ret s' =>
      simp only [vpure, hl1] at h
      cases h
      exact WpL.path e ho hc hl hq

end Go.PR
