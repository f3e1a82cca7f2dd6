/- Closing a law over a desk: eleven cells. -/
import Derived.Test.YtkoednplncfgaaaDoorFwZ2
import Derived.Test.YtkoednplncfgaaaDoorFwP23
/- Closing a law over a desk: eleven cells. -/
set_option linter.unusedVariables false
set_option maxRecDepth 100000
namespace Go.PR.S
open Go Go.PR Go.Proofs Go.ChangeShapes Go.WideShapes Go.ChangeAt Go.RowKit Go.WideElems

section
variable {H : Type} {enc : TypeId × Value → H} {W W' : World}

theorem array11 {α : Type} {cs : Array α} (h : cs.size = 11) : ∃ c0 c1 c2 c3 c4 c5 c6 c7 c8 c9 c10, cs = #[c0, c1, c2, c3, c4, c5, c6, c7, c8, c9, c10] := by
  obtain ⟨l⟩ := cs
  match l, h with
  | [c0, c1, c2, c3, c4, c5, c6, c7, c8, c9, c10], _ => exact ⟨c0, c1, c2, c3, c4, c5, c6, c7, c8, c9, c10, rfl⟩

theorem cut_eq {P : Program} {W : World} {fuel : Nat} {t : TypeId} {cs cs' : List Value} {y : DataW H × List MemPlace} (e : cs = cs') (h : DataW.trod enc P W 0 (fun _ => true) true fuel t cs = some y) :
    DataW.trod enc P W 0 (fun _ => true) true fuel t cs' = some y := e ▸ h

theorem k45 : Tryd.prog.cellsOf 45 = 11 := by kernel_rfl
theorem k34 : Tryd.prog.cellsOf 34 = 2 := by kernel_rfl
theorem k32 : Tryd.prog.cellsOf 32 = 1 := by kernel_rfl
theorem k24 : Tryd.prog.cellsOf 24 = 4 := by kernel_rfl
theorem k43 : Tryd.prog.cellsOf 43 = 4 := by kernel_rfl
theorem k22 : Tryd.prog.cellsOf 22 = 1 := by kernel_rfl
theorem k2 : Tryd.prog.cellsOf 2 = 1 := by kernel_rfl

theorem open_dkD {r : Reach} {b0 : Nat} {v : Value} {d : DataW H} {p : List MemPlace} (hv : Value.okWide Tryd.prog W r b0 45 v) (h : DataW.Trod enc Tryd.prog W 0 (fun _ => true) true 45 v d p) :
    ∃ m al w n s f N np pre post z, al.length ≤ 9223372036854775807 ∧ w.length ≤ 9223372036854775807 ∧ N.length ≤ 9223372036854775807 ∧ (∀ xs ∈ N, xs.length ≤ 9223372036854775807) ∧ pre.length ≤ 9223372036854775807 ∧ post.length ≤ 9223372036854775807 ∧
      Rep W NoB mu0 (dkD m al w n s f N np pre post z) v := by
  obtain ⟨cs, rfl, hsz⟩ := okWide_struct Tryd.underlying45 hv
  obtain ⟨c0, c1, c2, c3, c4, c5, c6, c7, c8, c9, c10, rfl⟩ := array11 (hsz.trans k45)
  obtain ⟨fuel, hf⟩ := h
  obtain ⟨y0, y1, y2, y3, n, _, _, h0, h1, h2, h3⟩ := Joins.trod_struct4 Tryd.underlying45 hf
  rw [k34] at h0
  rw [k32] at h1
  rw [k24] at h2
  rw [k43] at h3
  have h0 := cut_eq (cs' := [c0, c1]) rfl h0
  have h1 := cut_eq (cs' := [c2]) rfl h1
  have h2 := cut_eq (cs' := [c3, c4, c5, c6]) rfl h2
  have h3 := cut_eq (cs' := [c7, c8, c9, c10]) rfl h3
  obtain ⟨a0, a1, _, _, _, g0, g1⟩ := trod_struct2 Tryd.underlying34 h0
  rw [k2] at g0
  rw [k32] at g1
  have g0 := cut_eq (cs' := [c0]) rfl g0
  have g1 := cut_eq (cs' := [c1]) rfl g1
  obtain ⟨b0', b1, b2, b3, _, _, _, q0, q1, q2, q3⟩ := Joins.trod_struct4 Tryd.underlying24 h2
  rw [k2] at q0 q1 q2
  rw [k22] at q3
  have q0 := cut_eq (cs' := [c3]) rfl q0
  have q1 := cut_eq (cs' := [c4]) rfl q1
  have q2 := cut_eq (cs' := [c5]) rfl q2
  have q3 := cut_eq (cs' := [c6]) rfl q3
  obtain ⟨d0, d1, d2, d3, _, _, _, r0, r1, r2, r3⟩ := Joins.trod_struct4 Tryd.underlying43 h3
  rw [k2] at r0 r3
  rw [k32] at r1 r2
  have r0 := cut_eq (cs' := [c7]) rfl r0
  have r1 := cut_eq (cs' := [c8]) rfl r1
  have r2 := cut_eq (cs' := [c9]) rfl r2
  have r3 := cut_eq (cs' := [c10]) rfl r3
  obtain ⟨m, e0, _, _⟩ := DataW.trod_int Tryd.underlying2 g0
  obtain ⟨al, v1, e1, hl1, p1⟩ := open_row Tryd.underlying32 Tryd.underlying2 k2 g1
  obtain ⟨w, v2, e2, hl2, p2⟩ := open_row Tryd.underlying32 Tryd.underlying2 k2 h1
  obtain ⟨nn, e3, _, _⟩ := DataW.trod_int Tryd.underlying2 q0
  obtain ⟨s, e4, _, _⟩ := DataW.trod_int Tryd.underlying2 q1
  obtain ⟨f, e5, _, _⟩ := DataW.trod_int Tryd.underlying2 q2
  obtain ⟨N, v6, e6, hl6, hr6, p6⟩ := open_rows Tryd.underlying22 k32 Tryd.underlying32 Tryd.underlying2 k2 q3
  obtain ⟨np, e7, _, _⟩ := DataW.trod_int Tryd.underlying2 r0
  obtain ⟨pre, v8, e8, hl8, p8⟩ := open_row Tryd.underlying32 Tryd.underlying2 k2 r1
  obtain ⟨post, v9, e9, hl9, p9⟩ := open_row Tryd.underlying32 Tryd.underlying2 k2 r2
  obtain ⟨z, e10, _, _⟩ := DataW.trod_int Tryd.underlying2 r3
  simp only [List.cons.injEq, and_true] at e0 e1 e2 e3 e4 e5 e6 e7 e8 e9 e10
  subst e0 e1 e2 e3 e4 e5 e6 e7 e8 e9 e10
  exact ⟨m, al, w, nn, s, f, N, np, pre, post, z, hl1, hl2, hl6, hr6, hl8, hl9, [.int .i64 m, c1, c2, .int .i64 nn, .int .i64 s, .int .i64 f, c6, .int .i64 np, c8, c9, .int .i64 z], rfl, rfl, p1, p2, rfl, rfl, rfl, p6, rfl, p8, p9, rfl, trivial⟩
end

end Go.PR.S
